/-
  The engine, contracts and laws: 29 texts in one (merge.py): M1 M2 M3 M4 Ord M5 M6 P A F ME V Fr RA RB RC RD RE RF RG RH RI RJ RK RL RM RN RP RPa.
  Conditions: none. By an AI agent.
-/
import Derived.Test.YtmiinbhnfojnbaaDoorQb1
set_option linter.unusedSimpArgs false
set_option linter.unusedVariables false
set_option linter.unusedSectionVars false
set_option maxRecDepth 10000
namespace Go.Proofs.YtmiinbhnfojnbaaDoor
open Go Eng
@[go_sem] theorem bool_ne {ox oy : Operand} {a b : Bool} : Yf Tryd.prog .neq T.bool ox oy (.bool a) (.bool b) = some (.bool (a != b)) := by
  cases a <;> cases b <;> kernel_rfl
@[go_sem] theorem mp_nil {ox oy : Operand} : Yf Tryd.prog .eql T.p_model_Model ox oy (.pointer none) (.pointer none) = some (.bool true) := by kernel_rfl
@[go_sem] theorem mp_some {ox oy : Operand} {a : Addr} : Yf Tryd.prog .eql T.p_model_Model ox oy (.pointer (some a)) (.pointer none) = some (.bool false) := by kernel_rfl
structure Pr where
  key : ByteArray
  value : ByteArray
def EPr : Enc Pr := ⟨2, fun a => [.string a.key, .string a.value], fun _ => rfl, by decide, fun _ => rfl⟩
def EStr : Enc ByteArray := ⟨1, fun a => [.string a], fun _ => rfl, by decide, fun _ => rfl⟩
def V9 (a b : ByteArray) : Int := Lib.compareBytes (bl a) (bl b)
theorem q_CompareString (a b : ByteArray) (H : AHeap) : CC F.internal_bytealg_CompareString [.string a, .string b] H = some (.int .i64 (V9 a b), H) := by
  have h : ∀ H, xext Tryd.prog Tryd.f89 [.string a, .string b] H = some (.int .i64 (V9 a b)) := fun H => by kernel_rfl
  apply Yj _ (UM _ _ H) rfl
  rotate_left 2
  · simp (disch := first | with_reducible rfl | assumption | omega | rfl | (simp only [go_sem]; first | done | omega)) only [go_sem, ↓reduceIte, reduceCtorEq, Nat.reduceEqDiff, Nat.reduceAdd, Nat.reduceSub, Nat.reduceMul, Nat.reduceDiv, Nat.reduceMod, Nat.reduceLeDiff, Nat.reduceLT, Nat.reduceBEq, Int.reduceEq, Int.reduceBEq, Int.reduceBNe, Int.reduceLT, Int.reduceLE, Int.reduceAdd, Int.reduceSub, Int.reduceNeg, Int.reduceToNat, Int.reducePow, Nat.reducePow, Int.reduceMul, Int.reduceDiv, ↓YY, h]
    rfl
  · (repeat (first | exact Fr.refl _ | refine Fr.push ?_ _ | refine Fr.set ?_ _ _ (by intro h; first | omega | (simp only [go_sem] at h; omega))))
@[go_sem, go_sem ↓] theorem e_CompareString (a b : ByteArray) (H : AHeap) {k : Value → AHeap → Res} : Yh CC F.internal_bytealg_CompareString [.string a, .string b] H k = k (.int .i64 (V9 a b)) H := Ya (q_CompareString a b H)
theorem q_SCompare (a b : ByteArray) (H : AHeap) : CC F.strings_Compare [.string a, .string b] H = some (.int .i64 (V9 a b), H) := by
  apply Yj _ (d_strings_Compare _ _ H) rfl
  rotate_left 2
  · simp (disch := first | with_reducible rfl | assumption | omega | rfl | (simp only [go_sem]; first | done | omega)) only [go_sem, ↓reduceIte, reduceCtorEq, Nat.reduceEqDiff, Nat.reduceAdd, Nat.reduceSub, Nat.reduceMul, Nat.reduceDiv, Nat.reduceMod, Nat.reduceLeDiff, Nat.reduceLT, Nat.reduceBEq, Int.reduceEq, Int.reduceBEq, Int.reduceBNe, Int.reduceLT, Int.reduceLE, Int.reduceAdd, Int.reduceSub, Int.reduceNeg, Int.reduceToNat, Int.reducePow, Nat.reducePow, Int.reduceMul, Int.reduceDiv, ↓WW, e_CompareString]
    rfl
  · (repeat (first | exact Fr.refl _ | refine Fr.push ?_ _ | refine Fr.set ?_ _ _ (by intro h; first | omega | (simp only [go_sem] at h; omega))))
@[go_sem, go_sem ↓] theorem e_SCompare (a b : ByteArray) (H : AHeap) {k : Value → AHeap → Res} : Yh CC F.strings_Compare [.string a, .string b] H k = k (.int .i64 (V9 a b)) H := Ya (q_SCompare a b H)
theorem q_KCompare (a b : ByteArray) (H : AHeap) : CC F.keys_Compare [.string a, .string b] H = some (.int .i64 (V9 a b), H) := by
  apply Yj _ (d_keys_Compare _ _ H) rfl
  rotate_left 2
  · simp (disch := first | with_reducible rfl | assumption | omega | rfl | (simp only [go_sem]; first | done | omega)) only [go_sem, ↓reduceIte, reduceCtorEq, Nat.reduceEqDiff, Nat.reduceAdd, Nat.reduceSub, Nat.reduceMul, Nat.reduceDiv, Nat.reduceMod, Nat.reduceLeDiff, Nat.reduceLT, Nat.reduceBEq, Int.reduceEq, Int.reduceBEq, Int.reduceBNe, Int.reduceLT, Int.reduceLE, Int.reduceAdd, Int.reduceSub, Int.reduceNeg, Int.reduceToNat, Int.reducePow, Nat.reducePow, Int.reduceMul, Int.reduceDiv, ↓VU, e_SCompare]
    rfl
  · (repeat (first | exact Fr.refl _ | refine Fr.push ?_ _ | refine Fr.set ?_ _ _ (by intro h; first | omega | (simp only [go_sem] at h; omega))))
@[go_sem, go_sem ↓] theorem e_KCompare (a b : ByteArray) (H : AHeap) {k : Value → AHeap → Res} : Yh CC F.keys_Compare [.string a, .string b] H k = k (.int .i64 (V9 a b)) H := Ya (q_KCompare a b H)
@[go_sem] theorem sl_nil_Pair {ox oy : Operand} : Yf Tryd.prog .eql T.sl_api_Pair ox oy (.slice none 0 0) (.slice none 0 0) = some (.bool true) := by kernel_rfl
@[go_sem] theorem sl_some_Pair {ox oy : Operand} {a : Addr} {n c : Nat} : Yf Tryd.prog .eql T.sl_api_Pair ox oy (.slice (some a) n c) (.slice none 0 0) = some (.bool false) := by kernel_rfl
theorem q_clone_Pair (l : List Pr) (v : Value) (H : AHeap) (hr : Rd EPr H v l) (hl : l.length ≤ 1000000000000) :
    ∃ v' H', CC F.slices_Clone_Pair [v] H = some (v', H') ∧ Own EPr H' T.api_Pair v' l ∧ Yq H H' ∧ ∀ b, Yk v' = some b → H.n ≤ b := by
  have hsrc : ∀ H1, Yq H H1 → Vn 2 v H1 = some (l.length, EPr.cells l) := fun H1 h => (hr.still h).src rfl
  have s1 : Yq H (H.push (.cells [] T.api_Pair true)) := (Fr.refl H).push _
  have hs := hsrc _ s1
  by_cases hn : v = .slice none 0 0
  · have hl0 : l = [] := by
      rcases hr with h | h | ⟨b, o, c, h, _⟩
      · exact h.1
      · exact h.1
      · rw [hn] at h; cases h
    subst hn hl0
    refine ⟨.slice none 0 0, H, ?_, .inl ⟨rfl, rfl⟩, Fr.refl H, fun b h => by cases h⟩
    apply Yj _ (V5 _ H) rfl
    rotate_left 2
    · simp (disch := first | with_reducible rfl | assumption | omega | rfl | (simp only [go_sem]; first | done | omega)) only [go_sem, ↓reduceIte, reduceCtorEq, Nat.reduceEqDiff, Nat.reduceAdd, Nat.reduceSub, Nat.reduceMul, Nat.reduceDiv, Nat.reduceMod, Nat.reduceLeDiff, Nat.reduceLT, Nat.reduceBEq, Int.reduceEq, Int.reduceBEq, Int.reduceBNe, Int.reduceLT, Int.reduceLE, Int.reduceAdd, Int.reduceSub, Int.reduceNeg, Int.reduceToNat, Int.reducePow, Nat.reducePow, Int.reduceMul, Int.reduceDiv, ↓Xp]
      rfl
    · (repeat (first | exact Fr.refl _ | refine Fr.push ?_ _ | refine Fr.set ?_ _ _ (by intro h; first | omega | (simp only [go_sem] at h; omega))))
  · obtain ⟨a, n, c, hv⟩ : ∃ a n c, v = .slice (some a) n c := by
      rcases hr with h | ⟨_, a, k, h, _⟩ | ⟨b, o, c, h, _⟩
      · exact absurd h.2 hn
      · exact ⟨_, _, _, h⟩
      · exact ⟨_, _, _, h⟩
    have hnil : ∀ ox oy, Yf Tryd.prog .eql T.sl_api_Pair ox oy v (.slice none 0 0) = some (.bool false) := fun ox oy => by rw [hv]; exact sl_some_Pair
    have ho : Own EPr (H.push (.cells [] T.api_Pair true)) T.api_Pair (.slice (some ⟨H.n, 0, none⟩) 0 0) [] := .inr (.inl ⟨rfl, _, rfl, rfl, by simp⟩)
    by_cases hl0 : l = []
    · subst hl0
      refine ⟨.slice (some ⟨H.n, 0, none⟩) 0 0, H.push (.cells [] T.api_Pair true), ?_, ho, s1, fun b h => by cases h; exact Nat.le_refl _⟩
      have happ : app T.api_Pair 2 32 (.slice (some ⟨H.n, 0, none⟩) 0 0) (Vn 2 v (H.push (.cells [] T.api_Pair true))) (H.push (.cells [] T.api_Pair true)) = some (.slice (some ⟨H.n, 0, none⟩) 0 0, H.push (.cells [] T.api_Pair true)) := by rw [hs]; rfl
      refine (V5 _ H ?_).trans (congrArg some (WK (v := .slice (some ⟨H.n, 0, none⟩) 0 0) (H' := H.push (.cells [] T.api_Pair true)) rfl))
      simp (disch := first | with_reducible rfl | assumption | omega | rfl | (simp only [go_sem]; first | done | omega)) only [go_sem, ↓reduceIte, reduceCtorEq, Nat.reduceEqDiff, Nat.reduceAdd, Nat.reduceSub, Nat.reduceMul, Nat.reduceDiv, Nat.reduceMod, Nat.reduceLeDiff, Nat.reduceLT, Nat.reduceBEq, Int.reduceEq, Int.reduceBEq, Int.reduceBNe, Int.reduceLT, Int.reduceLE, Int.reduceAdd, Int.reduceSub, Int.reduceNeg, Int.reduceToNat, Int.reducePow, Nat.reducePow, Int.reduceMul, Int.reduceDiv, ↓Xp, hnil, happ]
    · obtain ⟨v', H', happ, hown, hfr, hb, hg⟩ := ho.app (m := l) hl0 (sz := 2) (bytes := 32) rfl (by simp; omega) (by simp; omega) hs
      refine ⟨v', H', ?_, hown, ?_, ?_⟩
      · refine (V5 _ H ?_).trans (congrArg some (WK (v := v') (H' := H') hg))
        simp (disch := first | with_reducible rfl | assumption | omega | rfl | (simp only [go_sem]; first | done | omega)) only [go_sem, ↓reduceIte, reduceCtorEq, Nat.reduceEqDiff, Nat.reduceAdd, Nat.reduceSub, Nat.reduceMul, Nat.reduceDiv, Nat.reduceMod, Nat.reduceLeDiff, Nat.reduceLT, Nat.reduceBEq, Int.reduceEq, Int.reduceBEq, Int.reduceBNe, Int.reduceLT, Int.reduceLE, Int.reduceAdd, Int.reduceSub, Int.reduceNeg, Int.reduceToNat, Int.reducePow, Nat.reducePow, Int.reduceMul, Int.reduceDiv, ↓Xp, hnil, happ]
      · refine s1.then hfr fun b hb h => ?_
        unfold WP at h
        simp [Yk] at h
        omega
      · intro b h
        rcases hb with hb | hb
        · rw [hb] at h
          simp [Yk] at h
          omega
        · rw [hb] at h
          simp at h
          omega
theorem ins_loop_Pair : Q3 (codeOf Tryd.prog hints F.slices_Insert_Pair) = true := by kernel_rfl
theorem q_insert_Pair (l : List Pr) (v : Value) (a : Pr) (bv i : Nat) (H : AHeap) (hr : Own EPr H T.api_Pair v l) (hl : l.length ≤ 1000000000000) (hi : i ≤ l.length) (hbn : bv < H.n) (hbv : H.f bv = .cells [.string a.key, .string a.value] T.api_Pair true) (hne : Yk v ≠ some bv) :
    ∃ v' H', CC F.slices_Insert_Pair [v, .int .i64 (i : Int), .slice (some ⟨bv, 0, none⟩) 1 2] H = some (v', H') ∧ Own EPr H' T.api_Pair v' (l.take i ++ a :: l.drop i) ∧ Fr (WP v) H H' ∧
      (Yk v' = Yk v ∨ ∃ b, Yk v' = some b ∧ H.n ≤ b) := by
  have hp : prims1 F.slices_Insert_Pair = some (insP Tryd.prog hints 66 86 zIns0) := by kernel_rfl
  have hsrc : Vn 2 (.slice (some ⟨bv, 0, none⟩) 1 2) H = some ([a].length, EPr.cells [a]) := by
    unfold Vn
    simp only [cut_b, hbv, Nat.one_ne_zero, if_false]
    rfl
  by_cases hin : i = l.length
  · subst hin
    obtain ⟨v', H', happ, hown, hfr, hb, hg⟩ := hr.app (m := [a]) (by simp) (sz := 2) (bytes := 32) rfl (by simp; omega) (by simp; omega) hsrc
    obtain ⟨w, hw, _, _⟩ := hr.drop (sz := 2) (q := .i64) rfl (Nat.le_refl l.length)
    have hlen := hr.rd.lenS
    refine ⟨v', H', ?_, by simpa using hown, hfr, hb.imp id fun h => ⟨_, h, Nat.le_refl _⟩⟩
    refine D_prim hp ?_
    have hbody : Qk Tryd.prog hints (fun _ _ _ => none) 1 F.slices_Insert_Pair [v, .int .i64 (l.length : Int), .slice (some ⟨bv, 0, none⟩) 1 2] H = some (v', H') := by
      rw [dBody_noLoop ins_loop_Pair, Uu]
      show X8 Ye Ym Yg Tryd.prog _ _ _ _ H _ = _
      simp (disch := first | with_reducible rfl | assumption | omega | rfl | (simp only [go_sem]; first | done | omega)) only [go_sem, ↓reduceIte, reduceCtorEq, Nat.reduceEqDiff, Nat.reduceAdd, Nat.reduceSub, Nat.reduceMul, Nat.reduceDiv, Nat.reduceMod, Nat.reduceLeDiff, Nat.reduceLT, Nat.reduceBEq, Int.reduceEq, Int.reduceBEq, Int.reduceBNe, Int.reduceLT, Int.reduceLE, Int.reduceAdd, Int.reduceSub, Int.reduceNeg, Int.reduceToNat, Int.reducePow, Nat.reducePow, Int.reduceMul, Int.reduceDiv, ↓X8, hw, hlen, happ]
    show (match Qk Tryd.prog hints (fun _ _ _ => none) 1 F.slices_Insert_Pair [v, .int .i64 (l.length : Int), .slice (some ⟨bv, 0, none⟩) 1 2] H with
      | some r => some r
      | none => _) = _
    rw [hbody]
  · have hilt : i < l.length := by omega
    rcases hr with ⟨h, _⟩ | ⟨h, _⟩ | ⟨b, o, c, xs, rfl, hlc, hb, hf, ho, hx⟩
    · subst h; simp at hilt
    · subst h; simp at hilt
    · have hneb : bv ≠ b := fun h => hne (by rw [h]; rfl)
      obtain ⟨v', H', hins, hown, hfr, hbl⟩ := insS_own (P := Tryd.prog) (E := EPr) (l := l) (el := T.api_Pair) (z := zIns0) (b := b) (o := o) (c := c) (i := i) (bv := bv) (ov := 0) (cv := 2) (m := [a]) rfl rfl hlc hb hf ho hx hilt (by simp) hbv hneb (by kernel_rfl) (show 0 + 1 * 2 ≤ 2 by decide) rfl
        (by rw [show Tryd.prog.bytesOf T.api_Pair = 32 by kernel_rfl]; simp; omega) (by simp; omega)
      refine ⟨v', H', ?_, hown, hfr.mono fun x _ h => by rw [h]; rfl, hbl.imp id fun h => ⟨_, h, Nat.le_refl _⟩⟩
      refine D_prim hp ?_
      have hlo : slS T.api_Pair 2 (.slice (some ⟨b, o, none⟩) l.length (2 * c + 1)) (some (.int .i64 (i : Int))) none none H = some (.slice (some ⟨b, o + i * 2, none⟩) (l.length - i) (2 * (c - i) + 1)) := sl_lo hf hi hlc
      have hne' : ¬ (i : Int) = (l.length : Int) := by omega
      have hbody : Qk Tryd.prog hints (fun _ _ _ => none) 1 F.slices_Insert_Pair [.slice (some ⟨b, o, none⟩) l.length (2 * c + 1), .int .i64 (i : Int), .slice (some ⟨bv, 0, none⟩) 1 2] H = none := by
        rw [dBody_noLoop ins_loop_Pair, Uu]
        show X8 Ye Ym Yg Tryd.prog _ _ _ _ H _ = _
        simp (disch := first | with_reducible rfl | assumption | omega | rfl | (simp only [go_sem]; first | done | omega)) only [go_sem, ↓reduceIte, reduceCtorEq, Nat.reduceEqDiff, Nat.reduceAdd, Nat.reduceSub, Nat.reduceMul, Nat.reduceDiv, Nat.reduceMod, Nat.reduceLeDiff, Nat.reduceLT, Nat.reduceBEq, Int.reduceEq, Int.reduceBEq, Int.reduceBNe, Int.reduceLT, Int.reduceLE, Int.reduceAdd, Int.reduceSub, Int.reduceNeg, Int.reduceToNat, Int.reducePow, Nat.reducePow, Int.reduceMul, Int.reduceDiv, ↓X8, hlo, hne', cap_odd]
      show (match Qk Tryd.prog hints (fun _ _ _ => none) 1 F.slices_Insert_Pair [.slice (some ⟨b, o, none⟩) l.length (2 * c + 1), .int .i64 (i : Int), .slice (some ⟨bv, 0, none⟩) 1 2] H with
        | some r => some r
        | none => _) = _
      rw [hbody]
      exact hins
theorem zrow_Pair : zrow Tryd.prog T.api_Pair = some [.string (mk []), .string (mk [])] := by kernel_rfl
theorem clear_Pair {b o n c : Nat} {H : AHeap} (hn : n ≠ 0) : xclear Tryd.prog [T.sl_api_Pair] (.slice (some ⟨b, o, none⟩) n c) H = (setB H b (wrL (H.f b) o (zeros [.string (mk []), .string (mk [])] n))).map fun H' => (.tuple #[], H') := by
  have h : Tryd.prog.underlying T.sl_api_Pair = some (.slice T.api_Pair) := Tryd.underlying59
  unfold xclear
  simp only [h, hn, if_false, zrow_Pair, Option.bind_some, stL_b]
theorem q_delete_Pair (l : List Pr) (v : Value) (i : Nat) (H : AHeap) (hr : Own EPr H T.api_Pair v l) (hl : l.length ≤ 1000000000000) (hi : i < l.length) :
    ∃ v' H', CC F.slices_Delete_Pair [v, .int .i64 (i : Int), .int .i64 ((i : Int) + 1)] H = some (v', H') ∧ Own EPr H' T.api_Pair v' (l.take i ++ l.drop (i + 1)) ∧ Fr (WP v) H H' ∧ Yk v' = Yk v := by
  rcases hr with ⟨h, _⟩ | ⟨h, _⟩ | ⟨b, o, c, xs, rfl, hlc, hb, hf, ho, hx⟩
  · subst h; simp at hi
  · subst h; simp at hi
  · have hw : EPr.w = 2 := rfl
    rw [hw] at ho hx
    have hne : ¬ (i : Int) = (i : Int) + 1 := by omega
    have hmul : l.length * 2 ≤ c * 2 := Nat.mul_le_mul_right _ hlc
    have e1 : slS T.api_Pair 2 (.slice (some ⟨b, o, none⟩) l.length (2 * c + 1)) (some (.int .i64 (i : Int))) (some (.int .i64 ((i : Int) + 1))) (some (.int .i64 (l.length : Int))) H = some (.slice (some ⟨b, if l.length = i then o else o + i * 2, none⟩) (i + 1 - i) (2 * (l.length - i))) :=
      sl_three (H := H) (e := T.api_Pair) (sz := 2) (i := i) (j := i + 1) (by omega) hi hlc
    have e2 : slS T.api_Pair 2 (.slice (some ⟨b, o, none⟩) l.length (2 * c + 1)) none (some (.int .i64 (i : Int))) none H = some (.slice (some ⟨b, o, none⟩) i (2 * c + 1)) := sl_hi hf (by omega)
    have e3 : slS T.api_Pair 2 (.slice (some ⟨b, o, none⟩) l.length (2 * c + 1)) (some (.int .i64 ((i : Int) + 1))) none none H = some (.slice (some ⟨b, o + (i + 1) * 2, none⟩) (l.length - (i + 1)) (2 * (c - (i + 1)) + 1)) :=
      sl_lo (H := H) (e := T.api_Pair) (sz := 2) (i := i + 1) hf hi hlc
    obtain ⟨ys, hys, e4⟩ : ∃ ys, ys = spl xs (o + i * 2) (EPr.cells (l.drop (i + 1))) ∧ app T.api_Pair 2 32 (.slice (some ⟨b, o, none⟩) i (2 * c + 1)) (Vn 2 (.slice (some ⟨b, o + (i + 1) * 2, none⟩) (l.length - (i + 1)) (2 * (c - (i + 1)) + 1)) H) H =
        some (.slice (some ⟨b, o, none⟩) (l.length - 1) (2 * c + 1), if l.length = i + 1 then H else H.set b (.cells ys T.api_Pair true)) := by
      refine ⟨_, rfl, ?_⟩
      have hsrc : Vn 2 (.slice (some ⟨b, o + (i + 1) * 2, none⟩) (l.length - (i + 1)) (2 * (c - (i + 1)) + 1)) H = some (l.length - (i + 1), EPr.cells (l.drop (i + 1))) := by
        unfold Vn
        by_cases h0 : l.length - (i + 1) = 0
        · rw [List.drop_eq_nil_of_le (by omega)]
          simp only [h0, if_true]
          rfl
        · simp only [h0, if_false, cut_b, hf]
          have hd : (xs.drop (o + (i + 1) * 2)).take ((l.length - (i + 1)) * 2) = EPr.cells (l.drop (i + 1)) := by
            have := EPr.cells_drop l (i + 1)
            rw [hw] at this
            rw [← this, ← hx, List.drop_take, List.drop_drop, Nat.sub_mul]
          rw [cutB_c (by omega), hd]
          rfl
      rw [hsrc]
      by_cases h0 : l.length = i + 1
      · rw [if_pos h0]
        unfold app
        simp only [Option.bind_some, show l.length - (i + 1) = 0 by omega, if_true]
        rw [show l.length - 1 = i by omega]
      · rw [if_neg h0]
        unfold app
        have hlen : (EPr.cells (l.drop (i + 1))).length = (l.length - (i + 1)) * 2 := by rw [EPr.cells_len, List.length_drop, hw]
        simp only [Option.bind_some, show ¬ l.length - (i + 1) = 0 by omega, if_false, show ¬ ((i + (l.length - (i + 1))) * 32 > 140737488355328 ∨ i + (l.length - (i + 1)) > 140737488355328) by omega, show i + (l.length - (i + 1)) ≤ (2 * c + 1) / 2 by omega, if_true, stL_b, hf]
        rw [wrL_c (by rw [hlen]; omega) (EPr.cells_one _), setB_s]
        simp only [Option.map_some]
        rw [show i + (l.length - (i + 1)) = l.length - 1 by omega]
    have hysl : ys.length = xs.length := by rw [hys, Xz]
    generalize hH1 : (if l.length = i + 1 then H else H.set b (.cells ys T.api_Pair true)) = H1 at e4
    obtain ⟨zs, hzs, hzl, f1⟩ : ∃ zs, (zs = ys) ∧ zs.length = xs.length ∧ H1.f b = .cells zs T.api_Pair true := by
      rw [← hH1]
      by_cases h0 : l.length = i + 1
      · rw [if_pos h0]
        refine ⟨xs, ?_, rfl, hf⟩
        rw [hys, List.drop_eq_nil_of_le (by omega)]
        rfl
      · rw [if_neg h0]
        exact ⟨ys, rfl, hysl, YC⟩
    subst hzs
    have fr1 : Fr (WP (.slice (some ⟨b, o, none⟩) l.length (2 * c + 1))) H H1 := by
      rw [← hH1]
      split
      · exact Fr.refl _
      · exact Fr.set (Fr.refl _) _ _ fun _ => rfl
    have e5 : slS T.api_Pair 2 (.slice (some ⟨b, o, none⟩) (l.length - 1) (2 * c + 1)) (some (.int .i64 ((l.length - 1 : Nat) : Int))) (some (.int .i64 (l.length : Int))) none H1 = some (.slice (some ⟨b, o + (l.length - 1) * 2, none⟩) (l.length - (l.length - 1)) (2 * (c - (l.length - 1)) + 1)) := sl_lohi f1 (by omega) hlc
    have e6 : l.length - (l.length - 1) = 1 := by omega
    have hn1 : b < H1.n := Nat.lt_of_lt_of_le hb fr1.n
    refine ⟨.slice (some ⟨b, o, none⟩) (l.length - 1) (2 * c + 1), H1.set b (.cells (spl zs (o + (l.length - 1) * 2) [.string (mk []), .string (mk [])]) T.api_Pair true), ?_, ?_, Fr.set fr1 _ _ fun _ => rfl, rfl⟩
    · refine (d_slices_Delete_Pair _ _ _ H (r := (.slice (some ⟨b, o, none⟩) (l.length - 1) (2 * c + 1), _)) ?_).trans (congrArg some (WK rfl))
      simp (disch := first | with_reducible rfl | assumption | omega | rfl | (simp only [go_sem]; first | done | omega)) only [go_sem, ↓reduceIte, reduceCtorEq, Nat.reduceEqDiff, Nat.reduceAdd, Nat.reduceSub, Nat.reduceMul, Nat.reduceDiv, Nat.reduceMod, Nat.reduceLeDiff, Nat.reduceLT, Nat.reduceBEq, Int.reduceEq, Int.reduceBEq, Int.reduceBNe, Int.reduceLT, Int.reduceLE, Int.reduceAdd, Int.reduceSub, Int.reduceNeg, Int.reduceToNat, Int.reducePow, Nat.reducePow, Int.reduceMul, Int.reduceDiv, ↓Wa, e1, hne, e2, e3, e4]
      rw [e5, e6]
      simp (disch := first | with_reducible rfl | assumption | omega | rfl | (simp only [go_sem]; first | done | omega)) only [go_sem, ↓reduceIte, reduceCtorEq, Nat.reduceEqDiff, Nat.reduceAdd, Nat.reduceSub, Nat.reduceMul, Nat.reduceDiv, Nat.reduceMod, Nat.reduceLeDiff, Nat.reduceLT, Nat.reduceBEq, Int.reduceEq, Int.reduceBEq, Int.reduceBNe, Int.reduceLT, Int.reduceLE, Int.reduceAdd, Int.reduceSub, Int.reduceNeg, Int.reduceToNat, Int.reducePow, Nat.reducePow, Int.reduceMul, Int.reduceDiv, clear_Pair, f1]
    · have hlen2 : (l.take i ++ l.drop (i + 1)).length = l.length - 1 := by simp; omega
      refine .inr (.inr ⟨b, o, c, _, by rw [hlen2], by rw [hlen2]; omega, by simpa using hn1, YC, by rw [Xz, hzl, hw, ho], ?_⟩)
      rw [hys]
      have := del_cells (E := EPr) (xs := xs) (z := [.string (mk []), .string (mk [])]) (o := o) (i := i) rfl hi (by rw [hw]; omega) (by rw [hw]; exact hx)
      exact this
end Go.Proofs.YtmiinbhnfojnbaaDoor

set_option maxRecDepth 10000
namespace Go.Proofs.YtmiinbhnfojnbaaDoor
open Go Eng
theorem q_place_1 (a : Pr) (key : ByteArray) (H : AHeap) : CC F.model_Model_place_1 [.agg #[.string a.key, .string a.value], .string key] H = some (.int .i64 (V9 a.key key), H) := by
  apply Yj _ (d_model_Model_place_1 _ _ H) rfl
  rotate_left 2
  · simp (disch := first | with_reducible rfl | assumption | omega | rfl | (simp only [go_sem]; first | done | omega)) only [go_sem, ↓reduceIte, reduceCtorEq, Nat.reduceEqDiff, Nat.reduceAdd, Nat.reduceSub, Nat.reduceMul, Nat.reduceDiv, Nat.reduceMod, Nat.reduceLeDiff, Nat.reduceLT, Nat.reduceBEq, Int.reduceEq, Int.reduceBEq, Int.reduceBNe, Int.reduceLT, Int.reduceLE, Int.reduceAdd, Int.reduceSub, Int.reduceNeg, Int.reduceToNat, Int.reducePow, Nat.reducePow, Int.reduceMul, Int.reduceDiv, ↓XZ, e_KCompare]
    rfl
  · (repeat (first | exact Fr.refl _ | refine Fr.push ?_ _ | refine Fr.set ?_ _ _ (by intro h; first | omega | (simp only [go_sem] at h; omega))))
@[go_sem, go_sem ↓] theorem e_place_1 (a : Pr) (key : ByteArray) (H : AHeap) {k : Value → AHeap → Res} : Yh CC F.model_Model_place_1 [.agg #[.string a.key, .string a.value], .string key] H k = k (.int .i64 (V9 a.key key)) H := Ya (q_place_1 a key H)
def PosP (l : List Pr) (key : ByteArray) (p : Nat) : Prop :=
  p ≤ l.length ∧ (∀ (i : Nat) (h : i < l.length), i < p → V9 l[i].key key < 0) ∧ (∀ (i : Nat) (h : i < l.length), p ≤ i → ¬ V9 l[i].key key < 0)
def isP (l : List Pr) (key : ByteArray) (p : Nat) : Bool := match l[p]? with | some a => decide (V9 a.key key = 0) | none => false
theorem l_bsP (l : List Pr) (v : Value) (key : ByteArray) (H : AHeap) (hr : Rd EPr H v l) (hl : l.length < 1152921504606846976)
    (p : Nat) (hp1 : ∀ (i : Nat) (h : i < l.length), i < p → V9 l[i].key key < 0) (hp2 : ∀ (i : Nat) (h : i < l.length), p ≤ i → ¬ V9 l[i].key key < 0) (K : K) : ∀ (d i j : Nat), j - i = d → i ≤ p → p ≤ j → j ≤ l.length →
    YK v (.string key) (.func (.func F.model_Model_place_1) #[] #[]) (.int .i64 l.length) (.int .i64 i) (.int .i64 j) H K
      = K (.exit 0) [(17, .bool false), (16, .int .i64 p), (15, .int .i64 p), (0, v), (1, .string key), (2, .func (.func F.model_Model_place_1) #[] #[]), (8, .int .i64 l.length), (9, .int .i64 p), (10, .int .i64 p)] H := by
  intro d
  induction d using Nat.strongRecOn with
  | ind d ih =>
    intro i j hd hi hj hn
    by_cases hlt : i < j
    · have hlt' : (i : Int) < (j : Int) := by omega
      have hm : ((i : Int) + (j : Int)) / 2 = (((i + j) / 2 : Nat) : Int) := by omega
      generalize hh : (i + j) / 2 = m at hm
      have hm1 : i ≤ m := by omega
      have hm2 : m < j := by omega
      have hml : m < l.length := by omega
      obtain ⟨b, o, hix, hb, hc, _⟩ := hr.ix (q := .i64) hml
      have hix : ixS 2 v (.int .i64 m) = some (.pointer (some ⟨b, o, none⟩)) := hix
      have hc : UT (H.f b) o 2 = some [.string l[m].key, .string l[m].value] := hc
      rw [WC]
      by_cases hp : m < p
      · have hcmp : decide (V9 l[m].key key < 0) = true := decide_eq_true (hp1 m hml hp)
        have ih := ih (j - (m + 1)) (by omega) (m + 1) j rfl (by omega) hj hn
        rw [Int.natCast_add] at ih
        simp (disch := first | with_reducible rfl | assumption | omega | rfl | (simp only [go_sem]; first | done | omega)) only [go_sem, ↓reduceIte, reduceCtorEq, Nat.reduceEqDiff, Nat.reduceAdd, Nat.reduceSub, Nat.reduceMul, Nat.reduceDiv, Nat.reduceMod, Nat.reduceLeDiff, Nat.reduceLT, Nat.reduceBEq, Int.reduceEq, Int.reduceBEq, Int.reduceBNe, Int.reduceLT, Int.reduceLE, Int.reduceAdd, Int.reduceSub, Int.reduceNeg, Int.reduceToNat, Int.reducePow, Nat.reducePow, Int.reduceMul, Int.reduceDiv, ↓YS, hlt', hm, hix, hc, VB, e_place_1, hcmp]
        exact ih
      · have hcmp : decide (V9 l[m].key key < 0) = false := decide_eq_false (hp2 m hml (by omega))
        have ih := ih (m - i) (by omega) i m rfl hi (by omega) (by omega)
        simp (disch := first | with_reducible rfl | assumption | omega | rfl | (simp only [go_sem]; first | done | omega)) only [go_sem, ↓reduceIte, reduceCtorEq, Nat.reduceEqDiff, Nat.reduceAdd, Nat.reduceSub, Nat.reduceMul, Nat.reduceDiv, Nat.reduceMod, Nat.reduceLeDiff, Nat.reduceLT, Nat.reduceBEq, Int.reduceEq, Int.reduceBEq, Int.reduceBNe, Int.reduceLT, Int.reduceLE, Int.reduceAdd, Int.reduceSub, Int.reduceNeg, Int.reduceToNat, Int.reducePow, Nat.reducePow, Int.reduceMul, Int.reduceDiv, ↓YS, hlt', hm, hix, hc, VB, e_place_1, hcmp]
        exact ih
    · have hip : i = p := by omega
      have hjp : j = p := by omega
      subst hip
      subst hjp
      have hlt' : ¬ (j : Int) < (j : Int) := by omega
      rw [WC]
      simp (disch := first | with_reducible rfl | assumption | omega | rfl | (simp only [go_sem]; first | done | omega)) only [go_sem, ↓reduceIte, reduceCtorEq, Nat.reduceEqDiff, Nat.reduceAdd, Nat.reduceSub, Nat.reduceMul, Nat.reduceDiv, Nat.reduceMod, Nat.reduceLeDiff, Nat.reduceLT, Nat.reduceBEq, Int.reduceEq, Int.reduceBEq, Int.reduceBNe, Int.reduceLT, Int.reduceLE, Int.reduceAdd, Int.reduceSub, Int.reduceNeg, Int.reduceToNat, Int.reducePow, Nat.reducePow, Int.reduceMul, Int.reduceDiv, ↓YS, hlt']
theorem q_bsP (l : List Pr) (v : Value) (key : ByteArray) (H : AHeap) (hr : Rd EPr H v l) (hl : l.length < 1152921504606846976) (p : Nat) (hp : PosP l key p) :
    CC F.slices_BinarySearchFunc_string [v, .string key, .func (.func F.model_Model_place_1) #[] #[]] H = some (.tuple #[.int .i64 p, .bool (isP l key p)], H) := by
  obtain ⟨hpl, hp1, hp2⟩ := hp
  have hlen := hr.lenS
  have hloop := l_bsP l v key H hr hl p hp1 hp2
  have hz : Value.int IntKind.i64 0 = Value.int IntKind.i64 ((0 : Nat) : Int) := rfl
  by_cases hlt : p < l.length
  · obtain ⟨b, o, hix, hb, hc, _⟩ := hr.ix (q := .i64) hlt
    have hix : ixS 2 v (.int .i64 p) = some (.pointer (some ⟨b, o, none⟩)) := hix
    have hc : UT (H.f b) o 2 = some [.string l[p].key, .string l[p].value] := hc
    have hlt' : (p : Int) < (l.length : Int) := by omega
    have his : isP l key p = decide (V9 l[p].key key = 0) := by unfold isP; rw [List.getElem?_eq_getElem hlt]
    rw [his]
    apply Yj _ (WV _ _ _ H) rfl
    rotate_left 2
    · simp (disch := first | with_reducible rfl | assumption | omega | rfl | (simp only [go_sem]; first | done | omega)) only [go_sem, ↓reduceIte, reduceCtorEq, Nat.reduceEqDiff, Nat.reduceAdd, Nat.reduceSub, Nat.reduceMul, Nat.reduceDiv, Nat.reduceMod, Nat.reduceLeDiff, Nat.reduceLT, Nat.reduceBEq, Int.reduceEq, Int.reduceBEq, Int.reduceBNe, Int.reduceLT, Int.reduceLE, Int.reduceAdd, Int.reduceSub, Int.reduceNeg, Int.reduceToNat, Int.reducePow, Nat.reducePow, Int.reduceMul, Int.reduceDiv, ↓YM, hlen]
      rw [hz, hloop _ (l.length - 0) 0 l.length rfl (by omega) hpl (by omega)]
      simp (disch := first | with_reducible rfl | assumption | omega | rfl | (simp only [go_sem]; first | done | omega)) only [go_sem, ↓reduceIte, reduceCtorEq, Nat.reduceEqDiff, Nat.reduceAdd, Nat.reduceSub, Nat.reduceMul, Nat.reduceDiv, Nat.reduceMod, Nat.reduceLeDiff, Nat.reduceLT, Nat.reduceBEq, Int.reduceEq, Int.reduceBEq, Int.reduceBNe, Int.reduceLT, Int.reduceLE, Int.reduceAdd, Int.reduceSub, Int.reduceNeg, Int.reduceToNat, Int.reducePow, Nat.reducePow, Int.reduceMul, Int.reduceDiv, hlt', hix, hc, VB, e_place_1]
      rfl
    · (repeat (first | exact Fr.refl _ | refine Fr.push ?_ _ | refine Fr.set ?_ _ _ (by intro h; first | omega | (simp only [go_sem] at h; omega))))
  · have hlt' : ¬ (p : Int) < (l.length : Int) := by omega
    have his : isP l key p = false := by unfold isP; rw [List.getElem?_eq_none (by omega)]
    rw [his]
    apply Yj _ (WV _ _ _ H) rfl
    rotate_left 2
    · simp (disch := first | with_reducible rfl | assumption | omega | rfl | (simp only [go_sem]; first | done | omega)) only [go_sem, ↓reduceIte, reduceCtorEq, Nat.reduceEqDiff, Nat.reduceAdd, Nat.reduceSub, Nat.reduceMul, Nat.reduceDiv, Nat.reduceMod, Nat.reduceLeDiff, Nat.reduceLT, Nat.reduceBEq, Int.reduceEq, Int.reduceBEq, Int.reduceBNe, Int.reduceLT, Int.reduceLE, Int.reduceAdd, Int.reduceSub, Int.reduceNeg, Int.reduceToNat, Int.reducePow, Nat.reducePow, Int.reduceMul, Int.reduceDiv, ↓YM, hlen]
      rw [hz, hloop _ (l.length - 0) 0 l.length rfl (by omega) hpl (by omega)]
      simp (disch := first | with_reducible rfl | assumption | omega | rfl | (simp only [go_sem]; first | done | omega)) only [go_sem, ↓reduceIte, reduceCtorEq, Nat.reduceEqDiff, Nat.reduceAdd, Nat.reduceSub, Nat.reduceMul, Nat.reduceDiv, Nat.reduceMod, Nat.reduceLeDiff, Nat.reduceLT, Nat.reduceBEq, Int.reduceEq, Int.reduceBEq, Int.reduceBNe, Int.reduceLT, Int.reduceLE, Int.reduceAdd, Int.reduceSub, Int.reduceNeg, Int.reduceToNat, Int.reducePow, Nat.reducePow, Int.reduceMul, Int.reduceDiv, hlt']
      rfl
    · (repeat (first | exact Fr.refl _ | refine Fr.push ?_ _ | refine Fr.set ?_ _ _ (by intro h; first | omega | (simp only [go_sem] at h; omega))))
theorem q_check_1 (a : ByteArray) (H : AHeap) : CC F.model_check_1 [.string a] H = some (.bool (decide (40 < (bl a).length)), H) := by
  have e : decide ((40 : Int) < ((bl a).length : Int)) = decide (40 < (bl a).length) := decide_eq_decide.2 (by omega)
  apply Yj _ (d_model_check_1 _ H) rfl
  rotate_left 2
  · simp (disch := first | with_reducible rfl | assumption | omega | rfl | (simp only [go_sem]; first | done | omega)) only [go_sem, ↓reduceIte, reduceCtorEq, Nat.reduceEqDiff, Nat.reduceAdd, Nat.reduceSub, Nat.reduceMul, Nat.reduceDiv, Nat.reduceMod, Nat.reduceLeDiff, Nat.reduceLT, Nat.reduceBEq, Int.reduceEq, Int.reduceBEq, Int.reduceBNe, Int.reduceLT, Int.reduceLE, Int.reduceAdd, Int.reduceSub, Int.reduceNeg, Int.reduceToNat, Int.reducePow, Nat.reducePow, Int.reduceMul, Int.reduceDiv, ↓Vs, e]
    rfl
  · (repeat (first | exact Fr.refl _ | refine Fr.push ?_ _ | refine Fr.set ?_ _ _ (by intro h; first | omega | (simp only [go_sem] at h; omega))))
@[go_sem, go_sem ↓] theorem e_check_1 (a : ByteArray) (H : AHeap) {k : Value → AHeap → Res} : Yh CC F.model_check_1 [.string a] H k = k (.bool (decide (40 < (bl a).length))) H := Ya (q_check_1 a H)
def Qg : List ByteArray → Nat → Int
  | [], _ => -1
  | a :: l, i => if 40 < (bl a).length then i else Qg l (i + 1)
theorem l_indexS (l : List ByteArray) (v : Value) (H : AHeap) (hr : Rd EStr H v l) (hl : l.length < 4611686018427387904) (K : K) : ∀ (m : List ByteArray) (i : Nat), l.drop i = m → i ≤ l.length →
    Y1 v (.func (.func F.model_check_1) #[] #[]) (.int .i64 l.length) (.int .i64 i) H (YI [] 0 (Ys (fun _ h2 => K .ret [(4, .int .i64 (-1))] h2) K)) = K .ret [(4, .int .i64 (Qg m i))] H
  | [], i, hm, hi => by
    have h : l.length ≤ i := List.drop_eq_nil_iff.1 hm
    have hlt : ¬ (i : Int) < (l.length : Int) := by omega
    rw [VF]
    simp (disch := first | with_reducible rfl | assumption | omega | rfl | (simp only [go_sem]; first | done | omega)) only [go_sem, ↓reduceIte, reduceCtorEq, Nat.reduceEqDiff, Nat.reduceAdd, Nat.reduceSub, Nat.reduceMul, Nat.reduceDiv, Nat.reduceMod, Nat.reduceLeDiff, Nat.reduceLT, Nat.reduceBEq, Int.reduceEq, Int.reduceBEq, Int.reduceBNe, Int.reduceLT, Int.reduceLE, Int.reduceAdd, Int.reduceSub, Int.reduceNeg, Int.reduceToNat, Int.reducePow, Nat.reducePow, Int.reduceMul, Int.reduceDiv, ↓Y6, hlt, Qg]
  | a :: m, i, hm, hi => by
    have h : i < l.length := by
      rcases Nat.lt_or_ge i l.length with h | h
      · exact h
      · rw [List.drop_eq_nil_of_le h] at hm; cases hm
    have hlt : (i : Int) < (l.length : Int) := by omega
    have ha : l[i] = a := by rw [List.drop_eq_getElem_cons h] at hm; exact (List.cons.inj hm).1
    have hm' : l.drop (i + 1) = m := by rw [List.drop_eq_getElem_cons h] at hm; exact (List.cons.inj hm).2
    have ih := l_indexS l v H hr hl K m (i + 1) hm' h
    obtain ⟨b, o, hix, hb, hc, _⟩ := hr.ix (q := .i64) h
    rw [ha] at hc
    have hix : ixS 1 v (.int .i64 i) = some (.pointer (some ⟨b, o, none⟩)) := hix
    have hc : X4 (H.f b) o = some (.string a) := X2 hc (i := 0) (by decide)
    rw [Int.natCast_add] at ih
    rw [VF]
    by_cases he : 40 < (bl a).length
    · have hd : decide (40 < (bl a).length) = true := decide_eq_true he
      rw [Qg, if_pos he]
      simp (disch := first | with_reducible rfl | assumption | omega | rfl | (simp only [go_sem]; first | done | omega)) only [go_sem, ↓reduceIte, reduceCtorEq, Nat.reduceEqDiff, Nat.reduceAdd, Nat.reduceSub, Nat.reduceMul, Nat.reduceDiv, Nat.reduceMod, Nat.reduceLeDiff, Nat.reduceLT, Nat.reduceBEq, Int.reduceEq, Int.reduceBEq, Int.reduceBNe, Int.reduceLT, Int.reduceLE, Int.reduceAdd, Int.reduceSub, Int.reduceNeg, Int.reduceToNat, Int.reducePow, Nat.reducePow, Int.reduceMul, Int.reduceDiv, ↓Y6, hlt, hix, hc, c_model_check_1, e_check_1, hd]
    · have hd : decide (40 < (bl a).length) = false := decide_eq_false he
      rw [Qg, if_neg he]
      simp (disch := first | with_reducible rfl | assumption | omega | rfl | (simp only [go_sem]; first | done | omega)) only [go_sem, ↓reduceIte, reduceCtorEq, Nat.reduceEqDiff, Nat.reduceAdd, Nat.reduceSub, Nat.reduceMul, Nat.reduceDiv, Nat.reduceMod, Nat.reduceLeDiff, Nat.reduceLT, Nat.reduceBEq, Int.reduceEq, Int.reduceBEq, Int.reduceBNe, Int.reduceLT, Int.reduceLE, Int.reduceAdd, Int.reduceSub, Int.reduceNeg, Int.reduceToNat, Int.reducePow, Nat.reducePow, Int.reduceMul, Int.reduceDiv, ↓Y6, hlt, hix, hc, c_model_check_1, e_check_1, hd]
      exact ih
theorem idxLong_iff : ∀ (l : List ByteArray) (i : Nat), (0 ≤ Qg l i) = (∃ a, a ∈ l ∧ 40 < (bl a).length)
  | [], i => by simp [Qg]
  | a :: l, i => by
    rw [Qg]
    by_cases h : 40 < (bl a).length
    · rw [if_pos h]; simp [h]
    · rw [if_neg h, idxLong_iff l (i + 1)]; simp [h]
def chk (key : ByteArray) (vs : List ByteArray) : Int :=
  if bl key = [] then 2 else if 24 < (bl key).length ∨ (vs.any fun a => decide (40 < (bl a).length)) = true then 5 else 0
theorem q_contains (l : List ByteArray) (v : Value) (H : AHeap) (hr : Rd EStr H v l) (hl : l.length < 4611686018427387904) :
    CC F.slices_ContainsFunc_string [v, .func (.func F.model_check_1) #[] #[]] H = some (.bool (l.any fun a => decide (40 < (bl a).length)), H) := by
  have hlen := hr.lenS
  have hix : CC F.slices_IndexFunc_string [v, .func (.func F.model_check_1) #[] #[]] H = some (.int .i64 (Qg l 0), H) := by
    apply Yj _ (Q9 _ _ H) rfl
    rotate_left 2
    · simp (disch := first | with_reducible rfl | assumption | omega | rfl | (simp only [go_sem]; first | done | omega)) only [go_sem, ↓reduceIte, reduceCtorEq, Nat.reduceEqDiff, Nat.reduceAdd, Nat.reduceSub, Nat.reduceMul, Nat.reduceDiv, Nat.reduceMod, Nat.reduceLeDiff, Nat.reduceLT, Nat.reduceBEq, Int.reduceEq, Int.reduceBEq, Int.reduceBNe, Int.reduceLT, Int.reduceLE, Int.reduceAdd, Int.reduceSub, Int.reduceNeg, Int.reduceToNat, Int.reducePow, Nat.reducePow, Int.reduceMul, Int.reduceDiv, ↓Xl, hlen]
      exact l_indexS l v H hr hl (Yi Tryd.prog [.tmp 4]) l 0 (by simp) (by omega)
    · (repeat (first | exact Fr.refl _ | refine Fr.push ?_ _ | refine Fr.set ?_ _ _ (by intro h; first | omega | (simp only [go_sem] at h; omega))))
  have e : decide (0 ≤ Qg l 0) = l.any fun a => decide (40 < (bl a).length) := by
    rw [Bool.eq_iff_iff, decide_eq_true_iff, idxLong_iff, List.any_eq_true]
    simp
  apply Yj _ (Qu _ _ H) rfl
  rotate_left 2
  · simp (disch := first | with_reducible rfl | assumption | omega | rfl | (simp only [go_sem]; first | done | omega)) only [go_sem, ↓reduceIte, reduceCtorEq, Nat.reduceEqDiff, Nat.reduceAdd, Nat.reduceSub, Nat.reduceMul, Nat.reduceDiv, Nat.reduceMod, Nat.reduceLeDiff, Nat.reduceLT, Nat.reduceBEq, Int.reduceEq, Int.reduceBEq, Int.reduceBNe, Int.reduceLT, Int.reduceLE, Int.reduceAdd, Int.reduceSub, Int.reduceNeg, Int.reduceToNat, Int.reducePow, Nat.reducePow, Int.reduceMul, Int.reduceDiv, ↓Y7, ↓Ya hix, Ya hix, e]
    rfl
  · (repeat (first | exact Fr.refl _ | refine Fr.push ?_ _ | refine Fr.set ?_ _ _ (by intro h; first | omega | (simp only [go_sem] at h; omega))))
theorem q_check (key : ByteArray) (l : List ByteArray) (v : Value) (H : AHeap) (hr : Rd EStr H v l) (hl : l.length < 4611686018427387904) :
    CC F.model_check [.string key, v] H = some (.int .i64 (chk key l), H) := by
  have hcon := q_contains l v H hr hl
  unfold chk
  by_cases h1 : bl key = []
  · have hd : decide (bl key = []) = true := decide_eq_true h1
    rw [if_pos h1]
    apply Yj _ (Qc _ _ H) rfl
    rotate_left 2
    · simp (disch := first | with_reducible rfl | assumption | omega | rfl | (simp only [go_sem]; first | done | omega)) only [go_sem, ↓reduceIte, reduceCtorEq, Nat.reduceEqDiff, Nat.reduceAdd, Nat.reduceSub, Nat.reduceMul, Nat.reduceDiv, Nat.reduceMod, Nat.reduceLeDiff, Nat.reduceLT, Nat.reduceBEq, Int.reduceEq, Int.reduceBEq, Int.reduceBNe, Int.reduceLT, Int.reduceLE, Int.reduceAdd, Int.reduceSub, Int.reduceNeg, Int.reduceToNat, Int.reducePow, Nat.reducePow, Int.reduceMul, Int.reduceDiv, ↓Wv, hd]
      rfl
    · (repeat (first | exact Fr.refl _ | refine Fr.push ?_ _ | refine Fr.set ?_ _ _ (by intro h; first | omega | (simp only [go_sem] at h; omega))))
  · have hd : decide (bl key = []) = false := decide_eq_false h1
    rw [if_neg h1]
    by_cases h2 : 24 < (bl key).length
    · have hd2 : decide ((24 : Int) < ((bl key).length : Int)) = true := decide_eq_true (by omega)
      rw [if_pos (.inl h2)]
      apply Yj _ (Qc _ _ H) rfl
      rotate_left 2
      · simp (disch := first | with_reducible rfl | assumption | omega | rfl | (simp only [go_sem]; first | done | omega)) only [go_sem, ↓reduceIte, reduceCtorEq, Nat.reduceEqDiff, Nat.reduceAdd, Nat.reduceSub, Nat.reduceMul, Nat.reduceDiv, Nat.reduceMod, Nat.reduceLeDiff, Nat.reduceLT, Nat.reduceBEq, Int.reduceEq, Int.reduceBEq, Int.reduceBNe, Int.reduceLT, Int.reduceLE, Int.reduceAdd, Int.reduceSub, Int.reduceNeg, Int.reduceToNat, Int.reducePow, Nat.reducePow, Int.reduceMul, Int.reduceDiv, ↓Wv, hd, hd2]
        rfl
      · (repeat (first | exact Fr.refl _ | refine Fr.push ?_ _ | refine Fr.set ?_ _ _ (by intro h; first | omega | (simp only [go_sem] at h; omega))))
    · have hd2 : decide ((24 : Int) < ((bl key).length : Int)) = false := decide_eq_false (by omega)
      cases hany : l.any fun a => decide (40 < (bl a).length) with
      | true =>
        rw [hany] at hcon
        rw [if_pos (.inr rfl)]
        apply Yj _ (Qc _ _ H) rfl
        rotate_left 2
        · simp (disch := first | with_reducible rfl | assumption | omega | rfl | (simp only [go_sem]; first | done | omega)) only [go_sem, ↓reduceIte, reduceCtorEq, Nat.reduceEqDiff, Nat.reduceAdd, Nat.reduceSub, Nat.reduceMul, Nat.reduceDiv, Nat.reduceMod, Nat.reduceLeDiff, Nat.reduceLT, Nat.reduceBEq, Int.reduceEq, Int.reduceBEq, Int.reduceBNe, Int.reduceLT, Int.reduceLE, Int.reduceAdd, Int.reduceSub, Int.reduceNeg, Int.reduceToNat, Int.reducePow, Nat.reducePow, Int.reduceMul, Int.reduceDiv, ↓Wv, hd, hd2, ↓Ya hcon, Ya hcon]
          rfl
        · (repeat (first | exact Fr.refl _ | refine Fr.push ?_ _ | refine Fr.set ?_ _ _ (by intro h; first | omega | (simp only [go_sem] at h; omega))))
      | false =>
        rw [hany] at hcon
        rw [if_neg (by simp; omega)]
        apply Yj _ (Qc _ _ H) rfl
        rotate_left 2
        · simp (disch := first | with_reducible rfl | assumption | omega | rfl | (simp only [go_sem]; first | done | omega)) only [go_sem, ↓reduceIte, reduceCtorEq, Nat.reduceEqDiff, Nat.reduceAdd, Nat.reduceSub, Nat.reduceMul, Nat.reduceDiv, Nat.reduceMod, Nat.reduceLeDiff, Nat.reduceLT, Nat.reduceBEq, Int.reduceEq, Int.reduceBEq, Int.reduceBNe, Int.reduceLT, Int.reduceLE, Int.reduceAdd, Int.reduceSub, Int.reduceNeg, Int.reduceToNat, Int.reducePow, Nat.reducePow, Int.reduceMul, Int.reduceDiv, ↓Wv, hd, hd2, ↓Ya hcon, Ya hcon]
          rfl
        · (repeat (first | exact Fr.refl _ | refine Fr.push ?_ _ | refine Fr.set ?_ _ _ (by intro h; first | omega | (simp only [go_sem] at h; omega))))
def MdlT (t : TypeId) (H : AHeap) (b : Nat) (l : List Pr) : Prop := ∃ v, H.f b = .cells [v] t true ∧ b < H.n ∧ Own EPr H T.api_Pair v l ∧ Yk v ≠ some b
abbrev Mdl := MdlT T.model_Model
theorem MdlT.keep {t : TypeId} {H H' : AHeap} {S : Nat → Prop} {b : Nat} {l : List Pr} (r : MdlT t H b l) (h : Fr S H H') (hb : ¬ S b) (hv : ∀ v, H.f b = .cells [v] t true → Off S v) : MdlT t H' b l := by
  obtain ⟨v, h1, h2, h3, h4⟩ := r
  exact ⟨v, by rw [h.f h2 hb]; exact h1, Nat.lt_of_lt_of_le h2 h.n, h3.keep h (hv v h1), h4⟩
theorem MdlT.still {t : TypeId} {H H' : AHeap} {b : Nat} {l : List Pr} (r : MdlT t H b l) (h : Yq H H') : MdlT t H' b l := r.keep h (fun h => h) fun _ _ _ _ h => h
def Ok (H : AHeap) : Prop := ∀ b, H.ver b < H.clk
theorem Ok.fr {S : Nat → Prop} {H H' : AHeap} (h : Ok H) (f : Fr S H H') : Ok H' := f.ok h
def MBT (t : TypeId) (H : AHeap) (b : Nat) : Nat → Prop := fun c => c = b ∨ ∃ v, H.f b = .cells [v] t true ∧ Yk v = some c
abbrev MB := MBT T.model_Model
theorem q_place (b : Nat) (l : List Pr) (key : ByteArray) (H : AHeap) (r : Mdl H b l) (hl : l.length < 1152921504606846976) (p : Nat) (hp : PosP l key p) :
    CC F.model_Model_place [.pointer (some ⟨b, 0, none⟩), .string key] H = some (.tuple #[.int .i64 p, .bool (isP l key p)], H) := by
  obtain ⟨v, h1, h2, h3, h4⟩ := r
  have hbs := q_bsP l v key H h3.rd hl p hp
  apply Yj _ (d_model_Model_place _ _ H) rfl
  rotate_left 2
  · simp (disch := first | with_reducible rfl | assumption | omega | rfl | (simp only [go_sem]; first | done | omega)) only [go_sem, ↓reduceIte, reduceCtorEq, Nat.reduceEqDiff, Nat.reduceAdd, Nat.reduceSub, Nat.reduceMul, Nat.reduceDiv, Nat.reduceMod, Nat.reduceLeDiff, Nat.reduceLT, Nat.reduceBEq, Int.reduceEq, Int.reduceBEq, Int.reduceBNe, Int.reduceLT, Int.reduceLE, Int.reduceAdd, Int.reduceSub, Int.reduceNeg, Int.reduceToNat, Int.reducePow, Nat.reducePow, Int.reduceMul, Int.reduceDiv, ↓Ws, h1, ↓Ya hbs, Ya hbs]
    rfl
  · (repeat (first | exact Fr.refl _ | refine Fr.push ?_ _ | refine Fr.set ?_ _ _ (by intro h; first | omega | (simp only [go_sem] at h; omega))))
theorem q_at_bad (b : Nat) (key : ByteArray) (vs : List ByteArray) (v : Value) (H : AHeap) (hv : Rd EStr H v vs) (hvl : vs.length < 4611686018427387904) (hc : chk key vs ≠ 0) :
    CC F.model_Model_at [.pointer (some ⟨b, 0, none⟩), .string key, v] H = some (.tuple #[.int .i64 0, .bool false, .int .i64 (chk key vs)], H) := by
  have hck := q_check key vs v H hv hvl
  generalize chk key vs = e at hck hc
  apply Yj _ (ZC _ _ _ H) rfl
  rotate_left 2
  · simp (disch := first | with_reducible rfl | assumption | omega | rfl | (simp only [go_sem]; first | done | omega)) only [go_sem, ↓reduceIte, reduceCtorEq, Nat.reduceEqDiff, Nat.reduceAdd, Nat.reduceSub, Nat.reduceMul, Nat.reduceDiv, Nat.reduceMod, Nat.reduceLeDiff, Nat.reduceLT, Nat.reduceBEq, Int.reduceEq, Int.reduceBEq, Int.reduceBNe, Int.reduceLT, Int.reduceLE, Int.reduceAdd, Int.reduceSub, Int.reduceNeg, Int.reduceToNat, Int.reducePow, Nat.reducePow, Int.reduceMul, Int.reduceDiv, ↓Wz, mp_some, ↓Ya hck, Ya hck, hc]
    rfl
  · (repeat (first | exact Fr.refl _ | refine Fr.push ?_ _ | refine Fr.set ?_ _ _ (by intro h; first | omega | (simp only [go_sem] at h; omega))))
theorem q_at (b : Nat) (l : List Pr) (key : ByteArray) (vs : List ByteArray) (v : Value) (H : AHeap) (r : Mdl H b l) (hl : l.length < 1152921504606846976) (p : Nat) (hp : PosP l key p) (hv : Rd EStr H v vs) (hvl : vs.length < 4611686018427387904) (hc : chk key vs = 0) :
    CC F.model_Model_at [.pointer (some ⟨b, 0, none⟩), .string key, v] H = some (.tuple #[.int .i64 p, .bool (isP l key p), .int .i64 0], H) := by
  have hck := q_check key vs v H hv hvl
  rw [hc] at hck
  have hpl := q_place b l key H r hl p hp
  apply Yj _ (ZC _ _ _ H) rfl
  rotate_left 2
  · simp (disch := first | with_reducible rfl | assumption | omega | rfl | (simp only [go_sem]; first | done | omega)) only [go_sem, ↓reduceIte, reduceCtorEq, Nat.reduceEqDiff, Nat.reduceAdd, Nat.reduceSub, Nat.reduceMul, Nat.reduceDiv, Nat.reduceMod, Nat.reduceLeDiff, Nat.reduceLT, Nat.reduceBEq, Int.reduceEq, Int.reduceBEq, Int.reduceBNe, Int.reduceLT, Int.reduceLE, Int.reduceAdd, Int.reduceSub, Int.reduceNeg, Int.reduceToNat, Int.reducePow, Nat.reducePow, Int.reduceMul, Int.reduceDiv, ↓Wz, mp_some, ↓Ya hck, Ya hck, c_model_Model_place, ↓Ya hpl, Ya hpl]
    rfl
  · (repeat (first | exact Fr.refl _ | refine Fr.push ?_ _ | refine Fr.set ?_ _ _ (by intro h; first | omega | (simp only [go_sem] at h; omega))))
def getP (l : List Pr) (key : ByteArray) (p : Nat) : Value := if isP l key p = true then .tuple #[.string ((l[p]?).elim (mk []) Pr.value), .int .i64 0] else .tuple #[.string (mk []), .int .i64 9]
theorem q_Get_bad (b : Nat) (key : ByteArray) (H : AHeap) (hc : chk key [] ≠ 0) : CC F.model_Model_Get [.pointer (some ⟨b, 0, none⟩), .string key] H = some (.tuple #[.string (mk []), .int .i64 (chk key [])], H) := by
  have hat := q_at_bad b key [] (.slice none 0 0) H (.inl ⟨rfl, rfl⟩) (by simp) hc
  generalize chk key [] = e at hat hc
  apply Yj _ (UQ _ _ H) rfl
  rotate_left 2
  · simp (disch := first | with_reducible rfl | assumption | omega | rfl | (simp only [go_sem]; first | done | omega)) only [go_sem, ↓reduceIte, reduceCtorEq, Nat.reduceEqDiff, Nat.reduceAdd, Nat.reduceSub, Nat.reduceMul, Nat.reduceDiv, Nat.reduceMod, Nat.reduceLeDiff, Nat.reduceLT, Nat.reduceBEq, Int.reduceEq, Int.reduceBEq, Int.reduceBNe, Int.reduceLT, Int.reduceLE, Int.reduceAdd, Int.reduceSub, Int.reduceNeg, Int.reduceToNat, Int.reducePow, Nat.reducePow, Int.reduceMul, Int.reduceDiv, ↓XP, ↓Ya hat, Ya hat, hc]
    rfl
  · (repeat (first | exact Fr.refl _ | refine Fr.push ?_ _ | refine Fr.set ?_ _ _ (by intro h; first | omega | (simp only [go_sem] at h; omega))))
theorem q_Get (b : Nat) (l : List Pr) (key : ByteArray) (H : AHeap) (r : Mdl H b l) (hl : l.length < 1152921504606846976) (p : Nat) (hp : PosP l key p) (hc : chk key [] = 0) :
    CC F.model_Model_Get [.pointer (some ⟨b, 0, none⟩), .string key] H = some (getP l key p, H) := by
  have hat := q_at b l key [] (.slice none 0 0) H r hl p hp (.inl ⟨rfl, rfl⟩) (by simp) hc
  obtain ⟨v, h1, h2, h3, h4⟩ := r
  unfold getP
  cases his : isP l key p with
  | false =>
    rw [his] at hat
    simp only [Bool.false_eq_true, if_false]
    apply Yj _ (UQ _ _ H) rfl
    rotate_left 2
    · simp (disch := first | with_reducible rfl | assumption | omega | rfl | (simp only [go_sem]; first | done | omega)) only [go_sem, ↓reduceIte, reduceCtorEq, Nat.reduceEqDiff, Nat.reduceAdd, Nat.reduceSub, Nat.reduceMul, Nat.reduceDiv, Nat.reduceMod, Nat.reduceLeDiff, Nat.reduceLT, Nat.reduceBEq, Int.reduceEq, Int.reduceBEq, Int.reduceBNe, Int.reduceLT, Int.reduceLE, Int.reduceAdd, Int.reduceSub, Int.reduceNeg, Int.reduceToNat, Int.reducePow, Nat.reducePow, Int.reduceMul, Int.reduceDiv, ↓XP, ↓Ya hat, Ya hat]
      rfl
    · (repeat (first | exact Fr.refl _ | refine Fr.push ?_ _ | refine Fr.set ?_ _ _ (by intro h; first | omega | (simp only [go_sem] at h; omega))))
  | true =>
    rw [his] at hat
    have hlt : p < l.length := by
      rcases Nat.lt_or_ge p l.length with h | h
      · exact h
      · unfold isP at his; rw [List.getElem?_eq_none h] at his; cases his
    obtain ⟨bb, o, hix, hb, hcc, _⟩ := h3.rd.ix (q := .i64) hlt
    have hix : ixS 2 v (.int .i64 p) = some (.pointer (some ⟨bb, o, none⟩)) := hix
    have hcc : X4 (H.f bb) (o + 1) = some (.string l[p].value) := X2 hcc (i := 1) (by decide)
    simp only [if_true, List.getElem?_eq_getElem hlt, Option.elim]
    apply Yj _ (UQ _ _ H) rfl
    rotate_left 2
    · simp (disch := first | with_reducible rfl | assumption | omega | rfl | (simp only [go_sem]; first | done | omega)) only [go_sem, ↓reduceIte, reduceCtorEq, Nat.reduceEqDiff, Nat.reduceAdd, Nat.reduceSub, Nat.reduceMul, Nat.reduceDiv, Nat.reduceMod, Nat.reduceLeDiff, Nat.reduceLT, Nat.reduceBEq, Int.reduceEq, Int.reduceBEq, Int.reduceBNe, Int.reduceLT, Int.reduceLE, Int.reduceAdd, Int.reduceSub, Int.reduceNeg, Int.reduceToNat, Int.reducePow, Nat.reducePow, Int.reduceMul, Int.reduceDiv, ↓XP, ↓Ya hat, Ya hat, h1, hix, hcc]
      rfl
    · (repeat (first | exact Fr.refl _ | refine Fr.push ?_ _ | refine Fr.set ?_ _ _ (by intro h; first | omega | (simp only [go_sem] at h; omega))))
end Go.Proofs.YtmiinbhnfojnbaaDoor

set_option maxRecDepth 10000
namespace Go.Proofs.YtmiinbhnfojnbaaDoor
open Go Eng
theorem Own.write {l : List Pr} {v : Value} {H : AHeap} (r : Own EPr H T.api_Pair v l) {i : Nat} (hi : i < l.length) (a : Pr) :
    ∃ b o H', ixS 2 v (.int .i64 (i : Int)) = some (.pointer (some ⟨b, o, none⟩)) ∧ setB H b (wrL (H.f b) o [.string a.key, .string a.value]) = some H' ∧ Own EPr H' T.api_Pair v (l.set i a) ∧ Yk v = some b ∧ b < H.n ∧
      H'.n = H.n ∧ Fr (fun c => c = b) H H' ∧ H'.ver b = H.clk := by
  rcases r with ⟨h, _⟩ | ⟨h, _⟩ | ⟨b, o, c, xs, rfl, hlc, hb, hf, ho, hx⟩
  · subst h; simp at hi
  · subst h; simp at hi
  · have hw : EPr.w = 2 := rfl
    rw [hw] at ho hx
    have hmul : l.length * 2 ≤ c * 2 := Nat.mul_le_mul_right _ hlc
    refine ⟨b, o + i * 2, H.set b (.cells (spl xs (o + i * 2) [.string a.key, .string a.value]) T.api_Pair true), ixS_nat hi, ?_, ?_, rfl, hb, rfl, Fr.set (Fr.refl H) _ _ fun _ => rfl, set_v_eq⟩
    · rw [hf, wrL_c (by simp; omega) rfl, setB_s]
    · refine .inr (.inr ⟨b, o, c, _, by simp, by simpa using hlc, by simpa using hb, YC, by rw [Xz, hw, ho], ?_⟩)
      rw [List.length_set, hw]
      apply List.ext_getElem?
      intro j
      have hcell : ∀ (l : List Pr) (k m : Nat), m < 2 → (EPr.cells l)[k * 2 + m]? = (l[k]?).bind fun a => (EPr.enc a)[m]? := by
        intro l k m hm
        by_cases hk : k < l.length
        · have := EPr.cells_elem l k hk
          rw [hw] at this
          rw [List.getElem?_eq_getElem hk, Option.bind_some, ← this, List.getElem?_take_of_lt hm, List.getElem?_drop]
        · rw [List.getElem?_eq_none (by rw [EPr.cells_len, hw]; omega), List.getElem?_eq_none (by omega)]
          rfl
      by_cases hj : j < l.length * 2
      · rw [List.getElem?_take_of_lt hj, List.getElem?_drop, QJ _ _ _ _ (by simp; omega)]
        have hdm : j = (j / 2) * 2 + j % 2 := by omega
        rw [hdm, hcell _ _ _ (by omega)]
        have hold : xs[o + j]? = (l[j / 2]?).bind fun a => (EPr.enc a)[j % 2]? := by
          rw [← hcell _ _ _ (by omega), ← hdm, ← hx, List.getElem?_take_of_lt hj, List.getElem?_drop]
        by_cases h1 : j / 2 = i
        · rw [if_pos (by simp; omega), ← h1, List.getElem?_set_self (by omega), Option.bind_some]
          rw [show o + (j / 2 * 2 + j % 2) - (o + j / 2 * 2) = j % 2 by omega]
          rfl
        · rw [if_neg (by simp; omega), List.getElem?_set_ne (by omega), ← hdm, hold]
      · rw [List.getElem?_eq_none (by simp only [List.length_take]; omega), List.getElem?_eq_none (by rw [EPr.cells_len, List.length_set, hw]; omega)]
structure UpT (t : TypeId) (H : AHeap) (b : Nat) (H' : AHeap) : Prop where
  fr : Fr (MBT t H b) H H'
  mb : ∀ c, MBT t H' b c → MBT t H b c ∨ H.n ≤ c
abbrev Up := UpT T.model_Model
theorem UpT.refl {t : TypeId} (H : AHeap) (b : Nat) : UpT t H b H := ⟨Fr.refl H, fun _ h => .inl h⟩
theorem Up.refl (H : AHeap) (b : Nat) : Up H b H := UpT.refl H b
theorem UpT.of {t : TypeId} {H H' : AHeap} {b : Nat} {v v' : Value} (h1 : H.f b = .cells [v] t true) (f : Fr (MBT t H b) H H') (h2 : H'.f b = .cells [v'] t true) (h : ∀ c, Yk v' = some c → Yk v = some c ∨ H.n ≤ c) : UpT t H b H' := by
  refine ⟨f, fun c hc => ?_⟩
  rcases hc with hc | ⟨u, hu, hb⟩
  · exact .inl (.inl hc)
  · rw [h2] at hu
    cases hu
    exact (h c hb).imp (fun h => .inr ⟨v, h1, h⟩) id
theorem q_set_is (b : Nat) (l : List Pr) (i : Nat) (a : Pr) (H : AHeap) (ok : Ok H) (r : Mdl H b l) (hi : i < l.length) :
    ∃ H', CC F.model_Model_set [.pointer (some ⟨b, 0, none⟩), .int .i64 (i : Int), .bool true, .agg #[.string a.key, .string a.value]] H = some (.int .i64 0, H') ∧ Mdl H' b (l.set i a) ∧ Up H b H' := by
  obtain ⟨v, h1, h2, h3, h4⟩ := r
  let H1 : AHeap := H.push (.cells [.string a.key, .string a.value] T.api_Pair true)
  have s1 : Yq H H1 := (Fr.refl H).push _
  have o1 : Own EPr H1 T.api_Pair v l := h3.still s1
  obtain ⟨bb, o, H2, hix, hw, o2, hbv, hb, hn2, hf2, hv2⟩ := Own.write o1 hi a
  have hbn : bb < H.n := h3.blk hbv
  have fbb : H1.f bb = H.f bb := s1.f hbn (fun h => h)
  have hw : setB (H.push (.cells [.string a.key, .string a.value] T.api_Pair true)) bb (wrL (H.f bb) o [.string a.key, .string a.value]) = some H2 := by rw [← fbb]; exact hw
  have hne : b ≠ bb := fun h => h4 (by rw [h]; exact hbv)
  have hfr : Fr (MB H b) H H2 := Fr.then (S := MB H b) s1.still hf2 fun c _ h => by subst h; exact .inr ⟨v, h1, hbv⟩
  have hfb : H2.f b = .cells [v] T.model_Model true := by rw [hf2.f (Nat.lt_of_lt_of_le h2 s1.n) hne, s1.f h2 (fun h => h), h1]
  refine ⟨H2, (UE _ _ _ _ H (r := (.int .i64 0, H2)) ?_).trans (congrArg some (Uy hbn (ok bb) ?_)), ⟨v, hfb, by rw [hn2]; exact Nat.lt_of_lt_of_le h2 s1.n, o2, h4⟩, UpT.of h1 hfr hfb fun c h => .inl h⟩
  · simp (disch := first | with_reducible rfl | assumption | omega | rfl | (simp only [go_sem]; first | done | omega)) only [go_sem, ↓reduceIte, reduceCtorEq, Nat.reduceEqDiff, Nat.reduceAdd, Nat.reduceSub, Nat.reduceMul, Nat.reduceDiv, Nat.reduceMod, Nat.reduceLeDiff, Nat.reduceLT, Nat.reduceBEq, Int.reduceEq, Int.reduceBEq, Int.reduceBNe, Int.reduceLT, Int.reduceLE, Int.reduceAdd, Int.reduceSub, Int.reduceNeg, Int.reduceToNat, Int.reducePow, Nat.reducePow, Int.reduceMul, Int.reduceDiv, ↓XO, h1, hix, hw]
  · rw [hv2]; exact s1.clk
theorem q_set_full (b : Nat) (l : List Pr) (i : Nat) (a : Pr) (H : AHeap) (r : Mdl H b l) (hl : l.length = 20000) :
    CC F.model_Model_set [.pointer (some ⟨b, 0, none⟩), .int .i64 (i : Int), .bool false, .agg #[.string a.key, .string a.value]] H = some (.int .i64 7, H) := by
  obtain ⟨v, h1, h2, h3, h4⟩ := r
  have hlen := h3.rd.lenS
  have he : (l.length : Int) = 20000 := by omega
  rw [he] at hlen
  apply Yj _ (UE _ _ _ _ H) rfl
  rotate_left 2
  · simp (disch := first | with_reducible rfl | assumption | omega | rfl | (simp only [go_sem]; first | done | omega)) only [go_sem, ↓reduceIte, reduceCtorEq, Nat.reduceEqDiff, Nat.reduceAdd, Nat.reduceSub, Nat.reduceMul, Nat.reduceDiv, Nat.reduceMod, Nat.reduceLeDiff, Nat.reduceLT, Nat.reduceBEq, Int.reduceEq, Int.reduceBEq, Int.reduceBNe, Int.reduceLT, Int.reduceLE, Int.reduceAdd, Int.reduceSub, Int.reduceNeg, Int.reduceToNat, Int.reducePow, Nat.reducePow, Int.reduceMul, Int.reduceDiv, ↓XO, h1, hlen]
    rfl
  · (repeat (first | exact Fr.refl _ | refine Fr.push ?_ _ | refine Fr.set ?_ _ _ (by intro h; first | omega | (simp only [go_sem] at h; omega))))
theorem q_set_new (b : Nat) (l : List Pr) (i : Nat) (a : Pr) (H : AHeap) (ok : Ok H) (r : Mdl H b l) (hi : i ≤ l.length) (hl : l.length < 20000) :
    ∃ H', CC F.model_Model_set [.pointer (some ⟨b, 0, none⟩), .int .i64 (i : Int), .bool false, .agg #[.string a.key, .string a.value]] H = some (.int .i64 0, H') ∧ Mdl H' b (l.take i ++ a :: l.drop i) ∧ Up H b H' := by
  obtain ⟨v, h1, h2, h3, h4⟩ := r
  have hlen := h3.rd.lenS
  have hne : ¬ (l.length : Int) = 20000 := by omega
  generalize hH1 : H.push (.cells [.string a.key, .string a.value] T.api_Pair true) = H1
  have s1 : Yq H H1 := by rw [← hH1]; exact (Fr.refl H).push _
  have n1 : H1.n = H.n + 1 := by rw [← hH1]; rfl
  have f1 : H1.f H.n = .cells [.string a.key, .string a.value] T.api_Pair true := by rw [← hH1]; exact Yu rfl
  have fb1 : H1.f b = .cells [v] T.model_Model true := by rw [s1.f h2 (fun h => h), h1]
  generalize hH2 : H1.push (.cells [.string a.key, .string a.value] T.api_Pair true) = H2
  have s2 : Yq H1 H2 := by rw [← hH2]; exact (Fr.refl H1).push _
  have n2 : H2.n = H1.n + 1 := by rw [← hH2]; rfl
  have f2 : H2.f H1.n = .cells [.string a.key, .string a.value] T.api_Pair true := by rw [← hH2]; exact Yu rfl
  have fb2 : H2.f b = .cells [v] T.model_Model true := by rw [s2.f (by omega) (fun h => h), fb1]
  have hnb : ∀ c, Yk v = some c → c < H.n := fun c h => h3.blk h
  obtain ⟨v6, H4, hins, ho6, fr4, hb6⟩ := q_insert_Pair l v a H1.n i H2 ((h3.still s1).still s2) (by omega) hi (by omega) f2 (fun h => by have := hnb _ h; omega)
  have hone6 : Eng.one v6 = true := ho6.cell
  have fb4 : H4.f b = .cells [v] T.model_Model true := by rw [fr4.f (by omega) h4, fb2]
  have n4 : H2.n ≤ H4.n := fr4.n
  generalize hH5 : H4.set b (.cells [v6] T.model_Model true) = H5
  have f5 : Fr (MB H b) H H5 := by
    rw [← hH5]
    refine Fr.set ?_ b _ (fun _ => .inl rfl)
    refine (s1.then s2 fun _ _ h => h).still.then (S := MB H b) fr4 fun c hc h => .inr ⟨v, h1, h⟩
  have hup : Up H b H5 := UpT.of h1 f5 (v' := v6) (by rw [← hH5]; exact YC) fun c hc => by
    rcases hb6 with h | ⟨x, h, hx⟩
    · exact .inl (by rw [← h]; exact hc)
    · rw [h] at hc; cases hc; exact .inr (by omega)
  refine ⟨H5, (UE _ _ _ _ H (r := (.int .i64 0, H5)) ?_).trans (congrArg some (Uy h2 (ok b) ?_)), ?_, hup⟩
  · simp (disch := first | with_reducible rfl | assumption | omega | rfl | (simp only [go_sem]; first | done | omega)) only [go_sem, ↓reduceIte, reduceCtorEq, Nat.reduceEqDiff, Nat.reduceAdd, Nat.reduceSub, Nat.reduceMul, Nat.reduceDiv, Nat.reduceMod, Nat.reduceLeDiff, Nat.reduceLT, Nat.reduceBEq, Int.reduceEq, Int.reduceBEq, Int.reduceBNe, Int.reduceLT, Int.reduceLE, Int.reduceAdd, Int.reduceSub, Int.reduceNeg, Int.reduceToNat, Int.reducePow, Nat.reducePow, Int.reduceMul, Int.reduceDiv, ↓XO, hH1, fb1, f1, hlen, hne, hH2, ↓Ya hins, Ya hins, fb4, hH5]
  · rw [← hH5, set_v_eq]
    exact Nat.le_trans s1.clk (Nat.le_trans s2.clk fr4.clk)
  · have hb6' : Yk v6 ≠ some b := by
      rcases hb6 with h | ⟨x, h, hx⟩
      · rw [h]; exact h4
      · rw [h]; intro h; cases h; omega
    refine ⟨v6, by rw [← hH5]; exact YC, by rw [← hH5]; simp; omega, ?_, hb6'⟩
    rw [← hH5]
    exact ho6.keep (S := fun x => x = b) (Fr.set (Fr.refl H4) b _ fun _ => rfl) fun c hc h => hb6' (h ▸ hc)
theorem rdOne (a : ByteArray) (H : AHeap) : Rd EStr (H.push (.cells [.string a] T.string true)) (.slice (some ⟨H.n, 0, none⟩) 1 2) [a] := by
  refine .inr (.inr ⟨H.n, 0, 2, rfl, by simp, by simp, ?_⟩)
  rw [Yu rfl]
  rfl
theorem MB_still {t : TypeId} {H H1 : AHeap} {b : Nat} {v : Value} (h1 : H.f b = .cells [v] t true) (h2 : b < H.n) (s : Yq H H1) : ∀ c, c < H.n → MBT t H1 b c → MBT t H b c := by
  intro c hc h
  rcases h with h | ⟨u, hu, hb⟩
  · exact .inl h
  · rw [s.f h2 (fun h => h)] at hu
    exact .inr ⟨u, hu, hb⟩
def putP (l : List Pr) (a : Pr) (p : Nat) : Int × List Pr :=
  if isP l a.key p = true then (0, l.set p a) else if l.length = 20000 then (7, l) else (0, l.take p ++ a :: l.drop p)
theorem isP_lt {l : List Pr} {key : ByteArray} {p : Nat} (h : isP l key p = true) : p < l.length := by
  rcases Nat.lt_or_ge p l.length with h' | h'
  · exact h'
  · unfold isP at h; rw [List.getElem?_eq_none h'] at h; cases h
theorem q_set (b : Nat) (l : List Pr) (a : Pr) (p : Nat) (H : AHeap) (ok : Ok H) (r : Mdl H b l) (hp : p ≤ l.length) (hl : l.length ≤ 20000) :
    ∃ H', CC F.model_Model_set [.pointer (some ⟨b, 0, none⟩), .int .i64 (p : Int), .bool (isP l a.key p), .agg #[.string a.key, .string a.value]] H = some (.int .i64 (putP l a p).1, H') ∧ Mdl H' b (putP l a p).2 ∧ Up H b H' := by
  unfold putP
  cases his : isP l a.key p with
  | true => exact q_set_is b l p a H ok r (isP_lt his)
  | false =>
    simp only [Bool.false_eq_true, if_false]
    by_cases hf : l.length = 20000
    · rw [if_pos hf]; exact ⟨H, q_set_full b l p a H r hf, r, Up.refl H b⟩
    · rw [if_neg hf]; exact q_set_new b l p a H ok r hp (by omega)
theorem q_Put_bad (b : Nat) (l : List Pr) (a : Pr) (H : AHeap) (r : Mdl H b l) (hc : chk a.key [a.value] ≠ 0) :
    CC F.model_Model_Put [.pointer (some ⟨b, 0, none⟩), .string a.key, .string a.value] H = some (.int .i64 (chk a.key [a.value]), H) := by
  have hat := q_at_bad b a.key [a.value] _ _ (rdOne a.value H) (by simp) hc
  generalize chk a.key [a.value] = e at hat hc
  apply Yj _ (Zc _ _ _ H) rfl
  rotate_left 2
  · simp (disch := first | with_reducible rfl | assumption | omega | rfl | (simp only [go_sem]; first | done | omega)) only [go_sem, ↓reduceIte, reduceCtorEq, Nat.reduceEqDiff, Nat.reduceAdd, Nat.reduceSub, Nat.reduceMul, Nat.reduceDiv, Nat.reduceMod, Nat.reduceLeDiff, Nat.reduceLT, Nat.reduceBEq, Int.reduceEq, Int.reduceBEq, Int.reduceBNe, Int.reduceLT, Int.reduceLE, Int.reduceAdd, Int.reduceSub, Int.reduceNeg, Int.reduceToNat, Int.reducePow, Nat.reducePow, Int.reduceMul, Int.reduceDiv, ↓Wh, ↓Ya hat, Ya hat, hc]
    rfl
  · (repeat (first | exact Fr.refl _ | refine Fr.push ?_ _ | refine Fr.set ?_ _ _ (by intro h; first | omega | (simp only [go_sem] at h; omega))))
theorem after_push {t : TypeId} {H H1 H' : AHeap} {b : Nat} {l : List Pr} (r : MdlT t H b l) (s : Yq H H1) (f : UpT t H1 b H') : UpT t H b H' := by
  obtain ⟨v, h1, h2, h3, h4⟩ := r
  refine ⟨s.still.then (S := MBT t H b) f.fr fun c hc h => MB_still h1 h2 s c hc h, fun c hc => ?_⟩
  rcases f.mb c hc with h | h
  · rcases Nat.lt_or_ge c H.n with h' | h'
    · exact .inl (MB_still h1 h2 s c h' h)
    · exact .inr h'
  · exact .inr (Nat.le_trans s.n h)
theorem Mdl.tidied {t : TypeId} {H H' : AHeap} {b : Nat} {l l' : List Pr} {v : Value} (ok : Ok H) (r : MdlT t H b l) (hm : MdlT t H' b l') (hfr : UpT t H b H') : ∃ H'', tidy H (v, H') = (v, H'') ∧ MdlT t H'' b l' ∧ UpT t H b H'' := by
  unfold tidy
  split
  · rename_i hg
    simp only [Bool.and_eq_true] at hg
    refine ⟨H, rfl, ?_, UpT.refl H b⟩
    obtain ⟨v, h1, h2, h3, h4⟩ := r
    obtain ⟨v', h1', h2', h3', h4'⟩ := hm
    have hsame : ∀ c, c < H.n → H'.f c = H.f c := by
      intro c hc
      rcases hfr.fr.old c hc with h | ⟨h, _⟩
      · exact h.2
      · have := List.all_eq_true.1 hg.2 c (by simpa using hc)
        have := ok c
        simp at *
        omega
    rw [hsame b h2, h1] at h1'
    cases h1'
    refine ⟨v, h1, h2, ?_, h4⟩
    rcases h3' with h | ⟨hl, x, hv, hs, hb⟩ | ⟨bb, o, c, xs, hv, hlc, hb, hff, ho, hx⟩
    · exact .inl h
    · exact .inr (.inl ⟨hl, x, hv, hs, h3.blk (by rw [hv]; rfl)⟩)
    · have hbb : bb < H.n := h3.blk (by rw [hv]; rfl)
      exact .inr (.inr ⟨bb, o, c, xs, hv, hlc, hbb, by rw [← hsame bb hbb]; exact hff, ho, hx⟩)
  · exact ⟨H', rfl, hm, hfr⟩
theorem q_Put (b : Nat) (l : List Pr) (a : Pr) (H : AHeap) (ok : Ok H) (r : Mdl H b l) (hl : l.length ≤ 20000) (p : Nat) (hp : PosP l a.key p) (hc : chk a.key [a.value] = 0) :
    ∃ H', CC F.model_Model_Put [.pointer (some ⟨b, 0, none⟩), .string a.key, .string a.value] H = some (.int .i64 (putP l a p).1, H') ∧ Mdl H' b (putP l a p).2 ∧ Up H b H' := by
  have s1 : Yq H (H.push (.cells [.string a.value] T.string true)) := (Fr.refl H).push _
  have r1 := r.still s1
  have hat := q_at b l a.key [a.value] _ _ r1 (by omega) p hp (rdOne a.value H) (by simp) hc
  obtain ⟨H', hset, hm, hf⟩ := q_set b l a p _ (ok.fr s1) r1 hp.1 hl
  have hfr := after_push r s1 hf
  obtain ⟨H'', ht, hm', hf'⟩ := Mdl.tidied (v := .int .i64 (putP l a p).1) ok r hm hfr
  refine ⟨H'', (Zc _ _ _ H (r := (.int .i64 (putP l a p).1, H')) ?_).trans (congrArg some ht), hm', hf'⟩
  simp (disch := first | with_reducible rfl | assumption | omega | rfl | (simp only [go_sem]; first | done | omega)) only [go_sem, ↓reduceIte, reduceCtorEq, Nat.reduceEqDiff, Nat.reduceAdd, Nat.reduceSub, Nat.reduceMul, Nat.reduceDiv, Nat.reduceMod, Nat.reduceLeDiff, Nat.reduceLT, Nat.reduceBEq, Int.reduceEq, Int.reduceBEq, Int.reduceBNe, Int.reduceLT, Int.reduceLE, Int.reduceAdd, Int.reduceSub, Int.reduceNeg, Int.reduceToNat, Int.reducePow, Nat.reducePow, Int.reduceMul, Int.reduceDiv, ↓Wh, ↓Ya hat, Ya hat, ↓Ya hset, Ya hset]
theorem q_Delete_bad (b : Nat) (key : ByteArray) (H : AHeap) (hc : chk key [] ≠ 0) : CC F.model_Model_Delete [.pointer (some ⟨b, 0, none⟩), .string key] H = some (.tuple #[.string (mk []), .int .i64 (chk key [])], H) := by
  have hg := q_Get_bad b key H hc
  generalize chk key [] = e at hg hc
  apply Yj _ (VP _ _ H) rfl
  rotate_left 2
  · simp (disch := first | with_reducible rfl | assumption | omega | rfl | (simp only [go_sem]; first | done | omega)) only [go_sem, ↓reduceIte, reduceCtorEq, Nat.reduceEqDiff, Nat.reduceAdd, Nat.reduceSub, Nat.reduceMul, Nat.reduceDiv, Nat.reduceMod, Nat.reduceLeDiff, Nat.reduceLT, Nat.reduceBEq, Int.reduceEq, Int.reduceBEq, Int.reduceBNe, Int.reduceLT, Int.reduceLE, Int.reduceAdd, Int.reduceSub, Int.reduceNeg, Int.reduceToNat, Int.reducePow, Nat.reducePow, Int.reduceMul, Int.reduceDiv, ↓Xd, ↓Ya hg, Ya hg, hc]
    rfl
  · (repeat (first | exact Fr.refl _ | refine Fr.push ?_ _ | refine Fr.set ?_ _ _ (by intro h; first | omega | (simp only [go_sem] at h; omega))))
theorem q_Delete (b : Nat) (l : List Pr) (key : ByteArray) (H : AHeap) (ok : Ok H) (r : Mdl H b l) (hl : l.length ≤ 20000) (p : Nat) (hp : PosP l key p) (hc : chk key [] = 0) :
    ∃ H', CC F.model_Model_Delete [.pointer (some ⟨b, 0, none⟩), .string key] H = some (getP l key p, H') ∧ Mdl H' b (if isP l key p = true then l.take p ++ l.drop (p + 1) else l) ∧ Up H b H' := by
  have hg := q_Get b l key H r (by omega) p hp hc
  unfold getP at hg ⊢
  cases his : isP l key p with
  | false =>
    rw [his] at hg
    simp only [Bool.false_eq_true, if_false] at hg ⊢
    refine ⟨H, ?_, r, Up.refl H b⟩
    apply Yj _ (VP _ _ H) rfl
    rotate_left 2
    · simp (disch := first | with_reducible rfl | assumption | omega | rfl | (simp only [go_sem]; first | done | omega)) only [go_sem, ↓reduceIte, reduceCtorEq, Nat.reduceEqDiff, Nat.reduceAdd, Nat.reduceSub, Nat.reduceMul, Nat.reduceDiv, Nat.reduceMod, Nat.reduceLeDiff, Nat.reduceLT, Nat.reduceBEq, Int.reduceEq, Int.reduceBEq, Int.reduceBNe, Int.reduceLT, Int.reduceLE, Int.reduceAdd, Int.reduceSub, Int.reduceNeg, Int.reduceToNat, Int.reducePow, Nat.reducePow, Int.reduceMul, Int.reduceDiv, ↓Xd, ↓Ya hg, Ya hg]
      rfl
    · (repeat (first | exact Fr.refl _ | refine Fr.push ?_ _ | refine Fr.set ?_ _ _ (by intro h; first | omega | (simp only [go_sem] at h; omega))))
  | true =>
    have hlt := isP_lt his
    have hpl := q_place b l key H r (by omega) p hp
    rw [his] at hg
    simp only [if_true] at hg ⊢
    generalize (l[p]?).elim (mk []) Pr.value = old at hg ⊢
    obtain ⟨v, h1, h2, h3, h4⟩ := r
    obtain ⟨v6, H4, hdel, ho6, fr4, hb6⟩ := q_delete_Pair l v p H h3 (by omega) hlt
    have hone6 : Eng.one v6 = true := ho6.cell
    have fb4 : H4.f b = .cells [v] T.model_Model true := by rw [fr4.f h2 h4, h1]
    have n4 : H.n ≤ H4.n := fr4.n
    generalize hH5 : H4.set b (.cells [v6] T.model_Model true) = H5
    have f5 : Fr (MB H b) H H5 := by
      rw [← hH5]
      refine Fr.set ?_ b _ (fun _ => .inl rfl)
      exact fr4.mono fun c _ h => .inr ⟨v, h1, h⟩
    have hup : Up H b H5 := UpT.of h1 f5 (v' := v6) (by rw [← hH5]; exact YC) fun c hc => .inl (by rw [← hb6]; exact hc)
    refine ⟨H5, (VP _ _ H (r := (.tuple #[.string old, .int .i64 0], H5)) ?_).trans (congrArg some (Uy h2 (ok b) ?_)), ?_, hup⟩
    · simp (disch := first | with_reducible rfl | assumption | omega | rfl | (simp only [go_sem]; first | done | omega)) only [go_sem, ↓reduceIte, reduceCtorEq, Nat.reduceEqDiff, Nat.reduceAdd, Nat.reduceSub, Nat.reduceMul, Nat.reduceDiv, Nat.reduceMod, Nat.reduceLeDiff, Nat.reduceLT, Nat.reduceBEq, Int.reduceEq, Int.reduceBEq, Int.reduceBNe, Int.reduceLT, Int.reduceLE, Int.reduceAdd, Int.reduceSub, Int.reduceNeg, Int.reduceToNat, Int.reducePow, Nat.reducePow, Int.reduceMul, Int.reduceDiv, ↓Xd, ↓Ya hg, Ya hg, ↓Ya hpl, Ya hpl, h1, ↓Ya hdel, Ya hdel, fb4, hH5]
    · rw [← hH5, set_v_eq]
      exact fr4.clk
    · refine ⟨v6, by rw [← hH5]; exact YC, by rw [← hH5]; simp; omega, ?_, by rw [hb6]; exact h4⟩
      rw [← hH5]
      refine ho6.keep (S := fun x => x = b) (Fr.set (Fr.refl H4) b _ fun _ => rfl) ?_
      intro c hc h
      rw [hb6, h] at hc
      exact h4 hc
end Go.Proofs.YtmiinbhnfojnbaaDoor

set_option maxRecDepth 10000
namespace Go.Proofs.YtmiinbhnfojnbaaDoor
open Go Eng
@[go_sem] theorem xload_Pair {a : Value} {H : AHeap} : UH Tryd.prog T.api_Pair a H = ldN 2 H a := by kernel_rfl
theorem pr_ext {a b : Pr} : a = b ↔ bl a.key = bl b.key ∧ bl a.value = bl b.value := by
  constructor
  · rintro rfl; exact ⟨rfl, rfl⟩
  · rintro ⟨h1, h2⟩
    cases a; cases b
    simp only at h1 h2
    rw [bl_inj h1, bl_inj h2]
def New (H : AHeap) (v : Value) : Prop := ∀ b, Yk v = some b → H.n ≤ b
theorem own_tidied {H H' : AHeap} {v : Value} {l : List Pr} (ho : Own EPr H' T.api_Pair v l) (hs : Yq H H') (hn : New H v) {x : Res} (hx : x = some (tidy H (v, H'))) :
    ∃ H'', x = some (v, H'') ∧ Own EPr H'' T.api_Pair v l ∧ Yq H H'' ∧ New H v := by
  unfold tidy at hx
  split at hx
  · rename_i hg
    simp only [Bool.and_eq_true] at hg
    refine ⟨H, hx, ?_, Fr.refl _, hn⟩
    rcases ho with h | ⟨_, a, h, _⟩ | ⟨b, o, c, xs, h, _⟩
    · exact .inl h
    · rw [h] at hg; exact absurd hg.1 (by simp [gr])
    · rw [h] at hg; exact absurd hg.1 (by simp [gr])
  · exact ⟨H', hx, ho, hs, hn⟩
theorem q_Pairs (b : Nat) (l : List Pr) (H : AHeap) (r : Mdl H b l) (hl : l.length ≤ 1000000000000) :
    ∃ v' H', CC F.model_Model_Pairs [.pointer (some ⟨b, 0, none⟩)] H = some (v', H') ∧ Own EPr H' T.api_Pair v' l ∧ Yq H H' ∧ New H v' := by
  obtain ⟨v, h1, h2, h3, h4⟩ := r
  obtain ⟨v', H', hcl, ho, hs, hn⟩ := q_clone_Pair l v H h3.rd hl
  obtain ⟨H'', h⟩ := own_tidied ho hs hn (d_model_Model_Pairs (.pointer (some ⟨b, 0, none⟩)) H (r := (v', H')) (by simp (disch := first | with_reducible rfl | assumption | omega | rfl | (simp only [go_sem]; first | done | omega)) only [go_sem, ↓reduceIte, reduceCtorEq, Nat.reduceEqDiff, Nat.reduceAdd, Nat.reduceSub, Nat.reduceMul, Nat.reduceDiv, Nat.reduceMod, Nat.reduceLeDiff, Nat.reduceLT, Nat.reduceBEq, Int.reduceEq, Int.reduceBEq, Int.reduceBNe, Int.reduceLT, Int.reduceLE, Int.reduceAdd, Int.reduceSub, Int.reduceNeg, Int.reduceToNat, Int.reducePow, Nat.reducePow, Int.reduceMul, Int.reduceDiv, ↓Wr, mp_some, h1, ↓Ya hcl, Ya hcl]))
  exact ⟨v', H'', h⟩
end Go.Proofs.YtmiinbhnfojnbaaDoor

set_option maxRecDepth 10000
namespace Go.Proofs.YtmiinbhnfojnbaaDoor
open Go Eng
theorem u8_lt {a b : UInt8} : a < b ↔ a.toNat < b.toNat := UInt8.lt_iff_toNat_lt
theorem u8_eq {a b : UInt8} : a = b ↔ a.toNat = b.toNat := UInt8.toNat_inj.symm
theorem cb_eq : ∀ {a b : List UInt8}, Lib.compareBytes a b = 0 ↔ a = b
  | [], [] => by simp [Lib.compareBytes]
  | [], _ :: _ => by simp [Lib.compareBytes]
  | _ :: _, [] => by simp [Lib.compareBytes]
  | a :: x, b :: y => by
    unfold Lib.compareBytes
    by_cases h1 : a < b
    · have := u8_lt.1 h1
      simp only [if_pos h1]
      constructor
      · intro h; cases h
      · intro h; cases h; omega
    · by_cases h2 : b < a
      · have := u8_lt.1 h2
        simp only [if_neg h1, if_pos h2]
        constructor
        · intro h; cases h
        · intro h; cases h; omega
      · have h3 : a = b := u8_eq.2 (by rw [u8_lt] at h1 h2; omega)
        subst h3
        simp only [if_neg h1]
        rw [cb_eq]
        simp
theorem cb_lt : ∀ {a b : List UInt8}, Op.bytesLess a b = true ↔ Lib.compareBytes a b < 0
  | [], [] => by simp [Lib.compareBytes, Op.bytesLess]
  | [], _ :: _ => by simp [Lib.compareBytes, Op.bytesLess]
  | _ :: _, [] => by simp [Lib.compareBytes, Op.bytesLess]
  | a :: x, b :: y => by
    unfold Lib.compareBytes
    rw [Op.bytesLess, Bool.or_eq_true, Bool.and_eq_true, cb_lt]
    by_cases h1 : a < b
    · simp [h1]
    · by_cases h2 : b < a
      · have h3 : ¬ a = b := fun h => by subst h; exact h1 h2
        simp [h1, h2, h3]
      · have h3 : a = b := u8_eq.2 (by rw [u8_lt] at h1 h2; omega)
        subst h3
        simp [h1]
theorem cb_swap : ∀ {a b : List UInt8}, Lib.compareBytes b a = - Lib.compareBytes a b
  | [], [] => by simp [Lib.compareBytes]
  | [], _ :: _ => by simp [Lib.compareBytes]
  | _ :: _, [] => by simp [Lib.compareBytes]
  | a :: x, b :: y => by
    unfold Lib.compareBytes
    by_cases h1 : a < b
    · have h2 : ¬ b < a := by rw [u8_lt] at h1 ⊢; omega
      simp [h1, h2]
    · by_cases h2 : b < a
      · simp [h1, h2]
      · simp only [if_neg h1, if_neg h2]
        exact cb_swap
theorem cb_trans : ∀ {a b c : List UInt8}, Lib.compareBytes a b < 0 → Lib.compareBytes b c < 0 → Lib.compareBytes a c < 0
  | _, b, [], _, h => by cases b <;> simp [Lib.compareBytes] at h
  | a, [], _ :: _, h, _ => by cases a <;> simp [Lib.compareBytes] at h
  | [], _ :: _, _ :: _, _, _ => by simp [Lib.compareBytes]
  | a :: x, b :: y, c :: z, h1, h2 => by
    rw [Lib.compareBytes] at h1 h2 ⊢
    by_cases p : a < b
    · by_cases q : b < c
      · have : a < c := by rw [u8_lt] at p q ⊢; omega
        rw [if_pos this]; decide
      · rw [if_neg q] at h2
        by_cases q' : c < b
        · rw [if_pos q'] at h2; cases h2
        · have : a < c := by rw [u8_lt] at p q q' ⊢; omega
          rw [if_pos this]; decide
    · rw [if_neg p] at h1
      by_cases p' : b < a
      · rw [if_pos p'] at h1; cases h1
      · rw [if_neg p'] at h1
        have e : a = b := u8_eq.2 (by rw [u8_lt] at p p'; omega)
        subst e
        by_cases q : a < c
        · rw [if_pos q]; decide
        · rw [if_neg q] at h2 ⊢
          by_cases q' : c < a
          · rw [if_pos q'] at h2; cases h2
          · rw [if_neg q'] at h2 ⊢
            exact cb_trans h1 h2
theorem VZ (a : ByteArray) : V9 a a = 0 := cb_eq.2 rfl
theorem bl_inj {a b : ByteArray} (h : bl a = bl b) : a = b := by
  cases a; cases b; unfold bl at h
  congr 1
  exact Array.toList_inj.1 h
theorem cmpS_eq {a b : ByteArray} : V9 a b = 0 ↔ a = b := ⟨fun h => bl_inj (cb_eq.1 h), fun h => by subst h; exact VZ a⟩
theorem cmpS_swap (a b : ByteArray) : V9 b a = - V9 a b := cb_swap
theorem cmpS_trans {a b c : ByteArray} : V9 a b < 0 → V9 b c < 0 → V9 a c < 0 := cb_trans
theorem less_cmpS (a b : ByteArray) : Op.bytesLess (bl a) (bl b) = decide (V9 a b < 0) := by
  rw [Bool.eq_iff_iff, cb_lt, decide_eq_true_iff]; rfl
end Go.Proofs.YtmiinbhnfojnbaaDoor

set_option maxRecDepth 10000
namespace Go.Proofs.YtmiinbhnfojnbaaDoor
open Go Eng
theorem Own.mid {α : Type} {E : Enc α} {H : AHeap} {e : TypeId} {v : Value} {l : List α} (r : Own E H e v l) {sz : Nat} (hsz : sz = E.w) {i j : Nat} (hi : i ≤ j) (hj : j ≤ l.length) {q q' : IntKind} :
    ∃ v', slS e sz v (some (.int q (i : Int))) (some (.int q' (j : Int))) none H = some v' ∧ Rd E H v' ((l.drop i).take (j - i)) := by
  subst hsz
  rcases r with ⟨rfl, rfl⟩ | ⟨rfl, ⟨b, o, s⟩, rfl, hs, hbb⟩ | ⟨b, o, c, xs, rfl, hl, hbn, hf, ho, hx⟩
  · simp only [List.length_nil, Nat.le_zero_eq] at hj
    subst hj
    simp only [Nat.le_zero_eq] at hi
    subst hi
    exact ⟨.slice none 0 0, rfl, .inl ⟨by simp, rfl⟩⟩
  · simp only at hs
    subst hs
    simp only [List.length_nil, Nat.le_zero_eq] at hj
    subst hj
    simp only [Nat.le_zero_eq] at hi
    subst hi
    exact ⟨.slice (some ⟨b, o, none⟩) 0 0, by simp [slS, WN, Wl, bnd], .inr (.inl ⟨by simp, _, _, rfl, rfl⟩)⟩
  · have hmul := Nat.mul_le_mul_right E.w hl
    have hmj := Nat.mul_le_mul_right E.w hj
    have hmi := Nat.mul_le_mul_right E.w hi
    refine ⟨_, sl_lohi hf hi (Nat.le_trans hj hl), ?_⟩
    have hlen : ((l.drop i).take (j - i)).length = j - i := by simp; omega
    by_cases h0 : j - i = 0
    · rw [h0]; exact .inr (.inl ⟨by simp, _, _, rfl, rfl⟩)
    · refine .inr (.inr ⟨b, _, _, by rw [hlen], fun h => h0 (by rw [← hlen, h]; rfl), hbn, ?_⟩)
      have hsub : (j - i) * E.w = j * E.w - i * E.w := Nat.sub_mul _ _ _
      rw [hlen, hf, cutB_c (by omega), ← E.cells_take, ← E.cells_drop, ← hx, List.drop_take, List.take_take, List.drop_drop, Nat.min_eq_left (by omega)]
end Go.Proofs.YtmiinbhnfojnbaaDoor

set_option maxRecDepth 10000
namespace Go.Proofs.YtmiinbhnfojnbaaDoor
open Go Eng
instance : DecidableEq Pr := fun a b => decidable_of_iff (bl a.key = bl b.key ∧ bl a.value = bl b.value) pr_ext.symm
theorem WB {α : Type} {l x : List α} {a : α} {i : Nat} (h : l.drop i = a :: x) : ∃ hi : i < l.length, l[i] = a ∧ l.drop (i + 1) = x := by
  have hi : i < l.length := by
    rcases Nat.lt_or_ge i l.length with h' | h'
    · exact h'
    · rw [List.drop_eq_nil_of_le h'] at h; cases h
  rw [List.drop_eq_getElem_cons hi] at h
  exact ⟨hi, (List.cons.inj h).1, (List.cons.inj h).2⟩
end Go.Proofs.YtmiinbhnfojnbaaDoor

set_option maxRecDepth 10000
namespace Go.Proofs.YtmiinbhnfojnbaaDoor
open Go Eng
def Srt (l : List Pr) : Prop := l.Pairwise fun a b => V9 a.key b.key < 0
def VV : List Pr → ByteArray → Nat
  | [], _ => 0
  | a :: l, key => if V9 a.key key < 0 then VV l key + 1 else 0
theorem posP_le : ∀ (l : List Pr) (key : ByteArray), VV l key ≤ l.length
  | [], _ => Nat.le_refl _
  | a :: l, key => by
    rw [VV]
    have := posP_le l key
    split <;> simp <;> omega
theorem ZN : ∀ {l : List Pr} (_ : Srt l) (key : ByteArray), PosP l key (VV l key)
  | [], _, key => ⟨Nat.le_refl _, fun i h => absurd h (by simp), fun i h => absurd h (by simp)⟩
  | a :: l, hs, key => by
    obtain ⟨ha, hl⟩ := List.pairwise_cons.1 hs
    obtain ⟨h1, h2, h3⟩ := ZN hl key
    rw [VV]
    by_cases h : V9 a.key key < 0
    · rw [if_pos h]
      refine ⟨by simp; omega, fun i hi hp => ?_, fun i hi hp => ?_⟩
      · cases i with
        | zero => exact h
        | succ i => exact h2 i (by simpa using hi) (by omega)
      · cases i with
        | zero => omega
        | succ i => exact h3 i (by simpa using hi) (by omega)
    · rw [if_neg h]
      refine ⟨by simp, fun i hi hp => by omega, fun i hi hp => ?_⟩
      cases i with
      | zero => exact h
      | succ i =>
        intro hc
        have hb := ha _ (List.getElem_mem (by simpa using hi : i < l.length))
        exact h (cmpS_trans hb hc)
theorem isP_eq {l : List Pr} {key : ByteArray} {p : Nat} (h : isP l key p = true) : ∃ hp : p < l.length, l[p].key = key := by
  unfold isP at h
  cases hg : l[p]? with
  | none => rw [hg] at h; cases h
  | some a =>
    rw [hg] at h
    obtain ⟨hp, rfl⟩ := List.getElem?_eq_some_iff.1 hg
    exact ⟨hp, cmpS_eq.1 (by simpa using h)⟩
theorem mem_pos {l : List Pr} (hs : Srt l) {i : Nat} (hi : i < l.length) : VV l l[i].key = i := by
  obtain ⟨h1, h2, h3⟩ := ZN hs l[i].key
  rcases Nat.lt_trichotomy (VV l l[i].key) i with h | h | h
  · have hlt : VV l l[i].key < l.length := by omega
    have := List.pairwise_iff_getElem.1 hs _ _ hlt hi h
    exact absurd this (h3 _ hlt (Nat.le_refl _))
  · exact h
  · have := h2 i hi h
    rw [VZ] at this
    omega
theorem isP_self {l : List Pr} (hs : Srt l) {i : Nat} (hi : i < l.length) : isP l l[i].key (VV l l[i].key) = true := by
  rw [mem_pos hs hi]
  unfold isP
  rw [List.getElem?_eq_getElem hi]
  simp [VZ]
theorem srt_set {l : List Pr} (hs : Srt l) {p : Nat} {a : Pr} (h : isP l a.key p = true) : Srt (l.set p a) := by
  obtain ⟨hp, he⟩ := isP_eq h
  refine List.pairwise_iff_getElem.2 fun i j hi hj hij => ?_
  have hk : ∀ (i : Nat) (hi : i < (l.set p a).length), (l.set p a)[i].key = (l[i]'(by simpa using hi)).key := by
    intro i hi
    rw [List.getElem_set]
    split
    · rename_i h'; subst h'; exact he.symm
    · rfl
  rw [hk i hi, hk j hj]
  exact List.pairwise_iff_getElem.1 hs _ _ _ _ hij
theorem srt_ins {l : List Pr} (hs : Srt l) {a : Pr} (h : isP l a.key (VV l a.key) = false) : Srt (l.take (VV l a.key) ++ a :: l.drop (VV l a.key)) := by
  obtain ⟨h1, h2, h3⟩ := ZN hs a.key
  generalize hp : VV l a.key = p at h h1 h2 h3
  unfold Srt
  rw [List.pairwise_append]
  refine ⟨hs.sublist (List.take_sublist _ _), ?_, ?_⟩
  · rw [List.pairwise_cons]
    refine ⟨fun b hb => ?_, hs.sublist (List.drop_sublist _ _)⟩
    obtain ⟨i, hi, rfl⟩ := List.getElem_of_mem hb
    rw [List.getElem_drop]
    have hi' : p + i < l.length := by simp at hi; omega
    have hge := h3 (p + i) hi' (by omega)
    have hpl : p < l.length := by omega
    have hne0 : ¬ V9 l[p].key a.key = 0 := by
      unfold isP at h
      rw [List.getElem?_eq_getElem hpl] at h
      simpa using h
    rw [cmpS_swap]
    by_cases hi0 : i = 0
    · subst hi0
      have := h3 p hpl (Nat.le_refl _)
      simp only [Nat.add_zero]
      omega
    · have hlt := List.pairwise_iff_getElem.1 hs p (p + i) hpl hi' (by omega)
      have hpp := h3 p hpl (Nat.le_refl _)
      have : V9 a.key l[p].key < 0 := by rw [cmpS_swap]; omega
      have := cmpS_trans this hlt
      rw [cmpS_swap] at this
      omega
  · intro b hb c hc
    obtain ⟨i, hi, rfl⟩ := List.getElem_of_mem hb
    rw [List.getElem_take]
    have hi' : i < p := by simp at hi; omega
    have hlt := h2 i (by omega) hi'
    rcases List.mem_cons.1 hc with rfl | hc
    · exact hlt
    · obtain ⟨j, hj, rfl⟩ := List.getElem_of_mem hc
      rw [List.getElem_drop]
      exact List.pairwise_iff_getElem.1 hs _ _ _ _ (by omega)
theorem srt_del {l : List Pr} (hs : Srt l) (p : Nat) : Srt (l.take p ++ l.drop (p + 1)) := by
  rw [← List.eraseIdx_eq_take_drop_succ]
  exact hs.sublist (List.eraseIdx_sublist _ _)
theorem srt_put {l : List Pr} (hs : Srt l) (a : Pr) : Srt (putP l a (VV l a.key)).2 := by
  unfold putP
  split
  · rename_i h; exact srt_set hs h
  · rename_i h
    split
    · exact hs
    · exact srt_ins hs (by simpa using h)
theorem len_put {l : List Pr} (hl : l.length ≤ 20000) (a : Pr) : (putP l a (VV l a.key)).2.length ≤ 20000 := by
  unfold putP
  split
  · simpa using hl
  · split
    · exact hl
    · simp; have := posP_le l a.key; omega
end Go.Proofs.YtmiinbhnfojnbaaDoor

set_option maxRecDepth 10000
namespace Go.Proofs.YtmiinbhnfojnbaaDoor
open Go Eng
variable {α : Type} {E : Enc α} {H : AHeap} {v : Value} {l m : List α} {e : TypeId}
theorem Eng.Own.nil : Own E H e (.slice none 0 0) [] := .inl ⟨rfl, rfl⟩
theorem Eng.Own.hi (r : Own E H e v l) {sz : Nat} (hsz : sz = E.w) {i : Nat} (hi : i ≤ l.length) {q : IntKind} : ∃ v', slS e sz v none (some (.int q (i : Int))) none H = some v' ∧ Rd E H v' (l.take i) := by
  subst hsz
  rcases r with ⟨rfl, rfl⟩ | ⟨rfl, ⟨b, o, s⟩, rfl, hs, hbb⟩ | ⟨b, o, c, xs, rfl, hl, hbn, hf, ho, hx⟩
  · simp only [List.length_nil, Nat.le_zero_eq] at hi
    subst hi
    exact ⟨.slice none 0 0, rfl, .inl ⟨by simp, rfl⟩⟩
  · simp only at hs
    subst hs
    simp only [List.length_nil, Nat.le_zero_eq] at hi
    subst hi
    exact ⟨.slice (some ⟨b, o, none⟩) 0 0, by simp [slS, WN, Wl, bnd], .inr (.inl ⟨by simp, _, _, rfl, rfl⟩)⟩
  · have hmul := Nat.mul_le_mul_right E.w hl
    have hmi := Nat.mul_le_mul_right E.w hi
    refine ⟨_, sl_hi hf (Nat.le_trans hi hl), ?_⟩
    have hlen : (l.take i).length = i := by simp; omega
    by_cases h0 : i = 0
    · subst h0; exact .inr (.inl ⟨by simp, _, _, rfl, rfl⟩)
    · refine .inr (.inr ⟨b, o, _, by rw [hlen], fun h => h0 (by rw [← hlen, h]; rfl), hbn, ?_⟩)
      rw [hlen, hf, cutB_c (by omega), ← E.cells_take, ← hx, List.take_take, Nat.min_eq_left hmi]
end Go.Proofs.YtmiinbhnfojnbaaDoor

set_option maxRecDepth 10000
namespace Go.Proofs.YtmiinbhnfojnbaaDoor
open Go Eng
end Go.Proofs.YtmiinbhnfojnbaaDoor

set_option maxRecDepth 10000
namespace Go.Proofs.YtmiinbhnfojnbaaDoor
open Go Eng
theorem MdlT.blk {t : TypeId} {H : AHeap} {b : Nat} {l : List Pr} (r : MdlT t H b l) {c : Nat} (h : MBT t H b c) : c < H.n := by
  obtain ⟨v, h1, h2, h3, h4⟩ := r
  rcases h with h | ⟨u, hu, hb⟩
  · omega
  · rw [h1] at hu; cases hu; exact h3.blk hb
theorem ZT {t : TypeId} {H H' : AHeap} {b : Nat} {l : List Pr} (r : MdlT t H b l) (s : Yq H H') {c : Nat} (h : MBT t H' b c) : MBT t H b c := by
  obtain ⟨v, h1, h2, _⟩ := r
  exact h.imp id fun ⟨u, hu, hb⟩ => ⟨u, by rw [← s.f h2 (fun h => h)]; exact hu, hb⟩
def putE (l : List Pr) (a : Pr) : Int × List Pr := if chk a.key [a.value] = 0 then putP l a (VV l a.key) else (chk a.key [a.value], l)
def getE (l : List Pr) (key : ByteArray) : Value := if chk key [] = 0 then getP l key (VV l key) else .tuple #[.string (mk []), .int .i64 (chk key [])]
def delE (l : List Pr) (key : ByteArray) : List Pr := if chk key [] = 0 then (if isP l key (VV l key) = true then l.take (VV l key) ++ l.drop (VV l key + 1) else l) else l
theorem q_putM (b : Nat) (l : List Pr) (a : Pr) (H : AHeap) (ok : Ok H) (r : Mdl H b l) (hs : Srt l) (hl : l.length ≤ 20000) :
    ∃ H', CC F.model_Model_Put [.pointer (some ⟨b, 0, none⟩), .string a.key, .string a.value] H = some (.int .i64 (putE l a).1, H') ∧ Mdl H' b (putE l a).2 ∧ Up H b H' := by
  unfold putE
  split
  · rename_i h; exact q_Put b l a H ok r hl _ (ZN hs a.key) h
  · rename_i h; exact ⟨H, q_Put_bad b l a H r h, r, Up.refl H b⟩
theorem q_getM (b : Nat) (l : List Pr) (key : ByteArray) (H : AHeap) (r : Mdl H b l) (hs : Srt l) (hl : l.length ≤ 20000) : CC F.model_Model_Get [.pointer (some ⟨b, 0, none⟩), .string key] H = some (getE l key, H) := by
  unfold getE
  split
  · rename_i h; exact q_Get b l key H r (by omega) _ (ZN hs key) h
  · rename_i h; exact q_Get_bad b key H h
theorem q_delM (b : Nat) (l : List Pr) (key : ByteArray) (H : AHeap) (ok : Ok H) (r : Mdl H b l) (hs : Srt l) (hl : l.length ≤ 20000) :
    ∃ H', CC F.model_Model_Delete [.pointer (some ⟨b, 0, none⟩), .string key] H = some (getE l key, H') ∧ Mdl H' b (delE l key) ∧ Up H b H' := by
  unfold getE delE
  by_cases h : chk key [] = 0
  · rw [if_pos h, if_pos h]; exact q_Delete b l key H ok r hl _ (ZN hs key) h
  · rw [if_neg h, if_neg h]; exact ⟨H, q_Delete_bad b key H h, r, Up.refl H b⟩
theorem srt_putE {l : List Pr} (hs : Srt l) (a : Pr) : Srt (putE l a).2 := by
  unfold putE
  split
  · exact srt_put hs a
  · exact hs
theorem len_putE {l : List Pr} (hl : l.length ≤ 20000) (a : Pr) : (putE l a).2.length ≤ 20000 := by
  unfold putE
  split
  · exact len_put hl a
  · exact hl
theorem srt_delE {l : List Pr} (hs : Srt l) (k : ByteArray) : Srt (delE l k) := by
  unfold delE
  split
  · split
    · exact srt_del hs _
    · exact hs
  · exact hs
theorem len_delE {l : List Pr} (hl : l.length ≤ 20000) (k : ByteArray) : (delE l k).length ≤ 20000 := by
  unfold delE
  split
  · split
    · simp; omega
    · exact hl
  · exact hl
end Go.Proofs.YtmiinbhnfojnbaaDoor

set_option maxRecDepth 10000
namespace Go.Proofs.YtmiinbhnfojnbaaDoor
open Go Eng
def val (l : List Pr) (k : ByteArray) : Option ByteArray := (l.find? fun a => decide (a.key = k)).map Pr.value
theorem val_none {l : List Pr} {k : ByteArray} (h : ∀ a ∈ l, ¬ a.key = k) : val l k = none := by
  unfold val
  rw [List.find?_eq_none.2 (by simpa using h)]
  rfl
theorem QY (a : Pr) (l : List Pr) (k : ByteArray) : val (a :: l) k = if a.key = k then some a.value else val l k := by
  unfold val
  rw [List.find?_cons]
  by_cases h : a.key = k
  · simp [h]
  · simp [h]
theorem Gm (l m : List Pr) (k : ByteArray) : val (l ++ m) k = (val l k).or (val m k) := by
  unfold val
  rw [List.find?_append]
  cases List.find? (fun a => decide (a.key = k)) l <;> rfl
theorem Z2 : ∀ {l : List Pr} (_ : Srt l) {a : Pr}, a ∈ l → val l a.key = some a.value
  | [], _, _, h => by cases h
  | b :: l, hs, a, h => by
    obtain ⟨hb, hl⟩ := List.pairwise_cons.1 hs
    rw [QY]
    rcases List.mem_cons.1 h with rfl | h
    · rw [if_pos rfl]
    · have := hb a h
      rw [if_neg fun he => by rw [he, VZ] at this; omega]
      exact Z2 hl h
theorem val_isP {l : List Pr} (hs : Srt l) (k : ByteArray) : val l k = if isP l k (VV l k) = true then some ((l[VV l k]?).elim (mk []) Pr.value) else none := by
  by_cases h : isP l k (VV l k) = true
  · obtain ⟨hp, he⟩ := isP_eq h
    rw [if_pos h, List.getElem?_eq_getElem hp]
    have := Z2 hs (List.getElem_mem hp)
    rw [he] at this
    exact this
  · rw [if_neg h]
    refine val_none fun a ha hk => h ?_
    obtain ⟨i, hi, rfl⟩ := List.getElem_of_mem ha
    rw [← hk]
    exact isP_self hs hi
theorem getP_val {l : List Pr} (hs : Srt l) (k : ByteArray) : getP l k (VV l k) = match val l k with | some v => .tuple #[.string v, .int .i64 0] | none => .tuple #[.string (mk []), .int .i64 9] := by
  rw [val_isP hs]
  unfold getP
  split <;> rfl
theorem val_set {a : Pr} {k : ByteArray} (hk : ¬ a.key = k) : ∀ (l : List Pr) (p : Nat), (∀ h : p < l.length, l[p].key = a.key) → val (l.set p a) k = val l k
  | [], _, _ => rfl
  | b :: l, 0, h => by
    have := h (by simp)
    rw [List.set_cons_zero, QY, QY, if_neg hk, if_neg (by rw [show b.key = a.key from this]; exact hk)]
  | b :: l, p + 1, h => by
    rw [List.set_cons_succ, QY, QY, val_set hk l p fun hp => h (by simpa using hp)]
theorem val_ins {a : Pr} {k : ByteArray} (hk : ¬ a.key = k) (l : List Pr) (p : Nat) : val (l.take p ++ a :: l.drop p) k = val l k := by
  rw [Gm, QY, if_neg hk, ← Gm, List.take_append_drop]
theorem val_del {l : List Pr} {k : ByteArray} {p : Nat} (hp : p < l.length) (hk : ¬ l[p].key = k) : val (l.take p ++ l.drop (p + 1)) k = val l k := by
  have e : l = l.take p ++ l[p] :: l.drop (p + 1) := by rw [← List.drop_eq_getElem_cons hp, List.take_append_drop]
  have h2 : val l k = val (l.take p ++ l[p] :: l.drop (p + 1)) k := by rw [← e]
  rw [h2, Gm, Gm, QY, if_neg hk]
theorem val_del_self {l : List Pr} (hs : Srt l) {p : Nat} (hp : p < l.length) : val (l.take p ++ l.drop (p + 1)) l[p].key = none := by
  refine val_none fun a ha hk => ?_
  rcases List.mem_append.1 ha with h | h
  · obtain ⟨i, hi, rfl⟩ := List.getElem_of_mem h
    rw [List.getElem_take] at hk
    have hi' : i < p := by simp at hi; omega
    have := List.pairwise_iff_getElem.1 hs i p (by omega) hp hi'
    rw [hk, VZ] at this
    omega
  · obtain ⟨i, hi, rfl⟩ := List.getElem_of_mem h
    rw [List.getElem_drop] at hk
    have hi' : p + 1 + i < l.length := by simp at hi; omega
    have := List.pairwise_iff_getElem.1 hs p (p + 1 + i) hp hi' (by omega)
    rw [hk, VZ] at this
    omega
structure Eff (l l' : List Pr) (e : Int) (key : ByteArray) (v : Option ByteArray) : Prop where
  self : e = 0 → val l' key = v
  other : ∀ k, ¬ key = k → val l' k = val l k
  err : e ≠ 0 → l' = l
theorem eff_put {l : List Pr} (hs : Srt l) (a : Pr) : Eff l (putP l a (VV l a.key)).2 (putP l a (VV l a.key)).1 a.key (some a.value) := by
  have hs' := srt_put hs a
  unfold putP at hs' ⊢
  split
  · rename_i h
    rw [if_pos h] at hs'
    obtain ⟨hp, he⟩ := isP_eq h
    exact ⟨fun _ => Z2 hs' (List.mem_iff_getElem.2 ⟨VV l a.key, by simpa using hp, by simp⟩), fun k hk => val_set hk l _ fun _ => he, fun h => absurd rfl h⟩
  · rename_i h
    rw [if_neg h] at hs'
    split
    · exact ⟨fun h => (by simp at h), fun k _ => rfl, fun _ => rfl⟩
    · rename_i h2
      rw [if_neg h2] at hs'
      exact ⟨fun _ => Z2 hs' (by simp), fun k hk => val_ins hk l _, fun h => absurd rfl h⟩
theorem eff_delete {l : List Pr} (hs : Srt l) (key : ByteArray) : Eff l (if isP l key (VV l key) = true then l.take (VV l key) ++ l.drop (VV l key + 1) else l) (if isP l key (VV l key) = true then 0 else 9) key none := by
  split
  · rename_i h
    obtain ⟨hp, he⟩ := isP_eq h
    refine ⟨fun _ => ?_, fun k hk => val_del hp (by rw [he]; exact hk), fun h => absurd rfl h⟩
    have := val_del_self hs hp
    rw [he] at this
    exact this
  · exact ⟨fun h => (by simp at h), fun k _ => rfl, fun _ => rfl⟩
theorem srt_ext : ∀ {c l : List Pr} (_ : Srt c) (_ : Srt l), (∀ a, a ∈ c ↔ a ∈ l) → c = l
  | [], [], _, _, _ => rfl
  | [], b :: l, _, _, h => by have := (h b).2 (by simp); cases this
  | a :: c, [], _, _, h => by have := (h a).1 (by simp); cases this
  | a :: c, b :: l, hc, hl, h => by
    obtain ⟨ha, hc'⟩ := List.pairwise_cons.1 hc
    obtain ⟨hb, hl'⟩ := List.pairwise_cons.1 hl
    have e : a = b := by
      rcases List.mem_cons.1 ((h a).1 (by simp)) with h1 | h1
      · exact h1
      · rcases List.mem_cons.1 ((h b).2 (by simp)) with h2 | h2
        · exact h2.symm
        · have := cmpS_trans (ha b h2) (hb a h1)
          rw [VZ] at this
          omega
    subst e
    rw [srt_ext hc' hl' fun x => ?_]
    constructor
    · intro hx
      rcases List.mem_cons.1 ((h x).1 (List.mem_cons_of_mem _ hx)) with h1 | h1
      · have := ha x hx
        rw [h1, VZ] at this
        omega
      · exact h1
    · intro hx
      rcases List.mem_cons.1 ((h x).2 (List.mem_cons_of_mem _ hx)) with h1 | h1
      · have := hb x hx
        rw [h1, VZ] at this
        omega
      · exact h1
end Go.Proofs.YtmiinbhnfojnbaaDoor

set_option maxRecDepth 10000
namespace Go.Proofs.YtmiinbhnfojnbaaDoor
open Go Eng
def VOk (l : List Pr) : Prop := ∀ a ∈ l, chk a.key [a.value] = 0
theorem chk_len {k v : ByteArray} (h : chk k [v] = 0) : bl k ≠ [] ∧ (bl k).length ≤ 24 ∧ (bl v).length ≤ 40 := by
  unfold chk at h
  split at h
  · cases h
  · rename_i h1
    split at h
    · cases h
    · rename_i h2
      simp at h2
      exact ⟨h1, h2.1, h2.2⟩
theorem VOk.sz {l : List Pr} (h : VOk l) : ∀ a ∈ l, (bl a.key).length ≤ 1000 ∧ (bl a.value).length ≤ 1000 := fun a ha => by
  have := chk_len (h a ha); omega
theorem vok_ins {l : List Pr} (h : VOk l) {a : Pr} (ha : chk a.key [a.value] = 0) (p : Nat) : VOk (l.take p ++ a :: l.drop p) := fun x hx => by
  rcases List.mem_append.1 hx with hx | hx
  · exact h x (List.mem_of_mem_take hx)
  · rcases List.mem_cons.1 hx with rfl | hx
    · exact ha
    · exact h x (List.mem_of_mem_drop hx)
theorem vok_putE {l : List Pr} (h : VOk l) (a : Pr) : VOk (putE l a).2 := by
  unfold putE
  split
  · rename_i hc
    unfold putP
    split
    · intro x hx
      rcases List.mem_or_eq_of_mem_set hx with hx | rfl
      · exact h x hx
      · exact hc
    · split
      · exact h
      · exact vok_ins h hc _
  · exact h
structure UK (H0 H : AHeap) (bm : Nat) (l : List Pr) : Prop where
  still : Yq H0 H
  ok : Ok H
  mdl : Mdl H bm l
  new : ∀ c, MB H bm c → H0.n ≤ c
  srt : Srt l
  len : l.length ≤ 20000
  vok : VOk l
theorem UK.start {H H1 : AHeap} (ok : Ok H) (h : H.push (.cells [.slice none 0 0] T.model_Model true) = H1) : UK H H1 H.n [] := by
  have s : Yq H H1 := by rw [← h]; exact (Fr.refl H).push _
  have f : H1.f H.n = .cells [.slice none 0 0] T.model_Model true := by rw [← h]; exact Yu rfl
  refine ⟨s, ok.fr s, ⟨_, f, by rw [← h]; exact Nat.lt_succ_self _, .inl ⟨rfl, rfl⟩, by simp [Yk]⟩, fun c hc => ?_, List.Pairwise.nil, by simp, fun a ha => by simp at ha⟩
  have e : c = H.n := hc.elim id fun ⟨u, hu, hb⟩ => by rw [f] at hu; cases hu; cases hb
  omega
theorem UK.to {H0 H H' : AHeap} {bm : Nat} {l : List Pr} (r : UK H0 H bm l) (s : Yq H H') : UK H0 H' bm l :=
  ⟨r.still.trans s, r.ok.fr s, r.mdl.still s, fun c h => r.new c (ZT r.mdl s h), r.srt, r.len, r.vok⟩
theorem UK.up {H0 H H' : AHeap} {bm : Nat} {l l' : List Pr} (r : UK H0 H bm l) (m : Mdl H' bm l') (u : Up H bm H') (h1 : Srt l') (h2 : l'.length ≤ 20000) (h3 : VOk l') : UK H0 H' bm l' :=
  ⟨r.still.then u.fr fun c hc h => by have := r.new c h; omega, r.ok.fr u.fr, m, fun c h => by
    rcases u.mb c h with h | h
    · exact r.new c h
    · have := r.still.n; omega, h1, h2, h3⟩
theorem UK.put {H0 H : AHeap} {bm : Nat} {l : List Pr} (r : UK H0 H bm l) (a : Pr) :
    ∃ H', CC F.model_Model_Put [.pointer (some ⟨bm, 0, none⟩), .string a.key, .string a.value] H = some (.int .i64 (putE l a).1, H') ∧ UK H0 H' bm (putE l a).2 ∧ Fr (MB H bm) H H' := by
  obtain ⟨H', e1, e2, e3⟩ := q_putM bm l a H r.ok r.mdl r.srt r.len
  exact ⟨H', e1, r.up e2 e3 (srt_putE r.srt a) (len_putE r.len a) (vok_putE r.vok a), e3.fr⟩
theorem vok_delE {l : List Pr} (h : VOk l) (k : ByteArray) : VOk (delE l k) := by
  unfold delE
  split
  · split
    · intro x hx
      rcases List.mem_append.1 hx with hx | hx
      · exact h x (List.mem_of_mem_take hx)
      · exact h x (List.mem_of_mem_drop hx)
    · exact h
  · exact h
theorem UK.del {H0 H : AHeap} {bm : Nat} {l : List Pr} (r : UK H0 H bm l) (k : ByteArray) :
    ∃ H', CC F.model_Model_Delete [.pointer (some ⟨bm, 0, none⟩), .string k] H = some (getE l k, H') ∧ UK H0 H' bm (delE l k) ∧ Fr (MB H bm) H H' := by
  obtain ⟨H', e1, e2, e3⟩ := q_delM bm l k H r.ok r.mdl r.srt r.len
  exact ⟨H', e1, r.up e2 e3 (srt_delE r.srt k) (len_delE r.len k) (vok_delE r.vok k), e3.fr⟩
end Go.Proofs.YtmiinbhnfojnbaaDoor

set_option maxRecDepth 10000
namespace Go.Proofs.YtmiinbhnfojnbaaDoor
open Go Eng
structure Cl where
  kind : Int
  u : Int
  i : Int
  s : ByteArray
  b : Bool
  deriving DecidableEq
def Cl.l (a : Cl) : List Value := [.int .i64 a.kind, .int .u64 a.u, .int .i64 a.i, .string a.s, .bool a.b]
def ECl : Enc Cl := ⟨5, Cl.l, fun _ => rfl, by decide, fun _ => rfl⟩
def c3 (less more : Bool) : Int := if less = true then -1 else if more = true then 1 else 0
def lsS (a b : ByteArray) : Bool := Op.bytesLess (bl a) (bl b)
def gtS (a b : ByteArray) : Bool := !(Op.bytesLess (bl a) (bl b) || bl a == bl b)
end Go.Proofs.YtmiinbhnfojnbaaDoor

set_option maxRecDepth 10000
namespace Go.Proofs.YtmiinbhnfojnbaaDoor
open Go Eng
def cmpC (a b : Cl) : Int :=
  if a.kind = b.kind then
    if a.kind = 1 then c3 (decide (a.u < b.u)) (decide (b.u < a.u))
    else if a.kind = 2 then c3 (decide (a.i < b.i)) (decide (b.i < a.i))
    else if a.kind = 3 then c3 (lsS a.s b.s) (gtS a.s b.s)
    else if a.kind = 4 then c3 (!a.b && b.b) (a.b && !b.b) else 0
  else 0
theorem rd_cell {H : AHeap} {v : Value} {l : List Cl} (hr : Rd ECl H v l) {i : Nat} (hi : i < l.length) : ∃ b o, ixS 5 v (.int .i64 (i : Int)) = some (.pointer (some ⟨b, o, none⟩)) ∧ UT (H.f b) o 5 = some l[i].l ∧ X4 (H.f b) (o + 3) = some (.string l[i].s) := by
  obtain ⟨b1, o1, ix, hb, hc, _⟩ := hr.ix (q := .i64) hi
  have hc : UT (H.f b1) o1 5 = some l[i].l := hc
  exact ⟨b1, o1, ix, hc, X2 hc (i := 3) (by decide)⟩
end Go.Proofs.YtmiinbhnfojnbaaDoor

set_option maxRecDepth 10000
namespace Go.Proofs.YtmiinbhnfojnbaaDoor
open Go Eng
end Go.Proofs.YtmiinbhnfojnbaaDoor

set_option maxRecDepth 10000
namespace Go.Proofs.YtmiinbhnfojnbaaDoor
open Go Eng
def EK : Enc Int := ⟨1, fun x => [.int .i64 x], fun _ => rfl, by decide, fun _ => rfl⟩
abbrev KR (H : AHeap) (v : Value) (l : List Int) : Prop := RdS EK T.api_CellKind H v l
abbrev tbV (n : Int) (kv rv : Value) : Value := .agg #[.int .i64 n, kv, rv]
theorem rd_kind {H : AHeap} {v : Value} {l : List Int} (hr : KR H v l) {i : Nat} (hi : i < l.length) {iv : Int} (hiv : iv = (i : Int)) : ∃ b o, ixS 1 v (.int .i64 iv) = some (.pointer (some ⟨b, o, none⟩)) ∧ X4 (H.f b) o = some (.int .i64 l[i]) := by
  obtain ⟨b1, o1, ix, hb, hc, _⟩ := hr.1.ix (q := .i64) hi
  subst hiv
  exact ⟨b1, o1, ix, X2 hc (i := 0) (by decide)⟩
def Vi (k : Int) : Bool := decide (1 ≤ k) && decide (k ≤ 4)
def Uh (n : Int) (kl rl : List Int) : Bool :=
  decide (1 ≤ n) && (decide (n ≤ 255) && (decide (1 ≤ kl.length) && (decide (kl.length ≤ 8) && (decide (rl.length ≤ 8) && (kl ++ rl).all Vi))))
def XL (c : Cl) (k : Int) : Bool := decide (c.kind = k ∧ (k = 1 ∨ c.u = 0) ∧ (k = 2 ∨ c.i = 0) ∧ (k = 3 ∨ bl c.s = []) ∧ (k = 4 ∨ c.b = false))
theorem cell_eq {ox oy : Operand} {a b : Cl} : Yf Tryd.prog .eql T.api_Cell ox oy (.agg ⟨a.l⟩) (.agg ⟨b.l⟩) = some (.bool (decide (a = b))) := by
  have h := agg_eq (P := Tryd.prog) (t := T.api_Cell) (xs := a.l) (ys := b.l) (ox := ox) (oy := oy) Tryd.underlying68 (by kernel_rfl) (by kernel_rfl) (by kernel_rfl) rfl rfl
  rw [h]
  have e : ceqs a.l b.l = decide (a = b) := by
    obtain ⟨k1, u1, i1, s1, b1⟩ := a
    obtain ⟨k2, u2, i2, s2, b2⟩ := b
    have hs : (bl s1 = bl s2) = (s1 = s2) := propext ⟨fun h => Eng.bl_inj h, fun h => by rw [h]⟩
    simp only [Cl.l, ceqs, ceq, Cl.mk.injEq]
    apply Bool.eq_iff_iff.2
    simp [hs]
  rw [e]
end Go.Proofs.YtmiinbhnfojnbaaDoor

set_option maxRecDepth 10000
namespace Go.Proofs.YtmiinbhnfojnbaaDoor
open Go Eng
def xcell (c : Cl) (k : Int) : Cl := ⟨k, if k = 1 then c.u else 0, if k = 2 then c.i else 0, if k = 3 then c.s else mk [], if k = 4 then c.b else false⟩
theorem xcell_eq (c : Cl) (k : Int) : decide (xcell c k = c) = XL c k := by
  obtain ⟨k1, u1, i1, s1, b1⟩ := c
  unfold xcell XL
  apply decide_eq_decide.2
  simp only [Cl.mk.injEq]
  have hs : (mk [] = s1) ↔ (bl s1 = []) := ⟨fun h => by rw [← h, YT], fun h => by rw [← h, mk_bl]⟩
  constructor
  · rintro ⟨h1, h2, h3, h4, h5⟩
    refine ⟨h1.symm, ?_, ?_, ?_, ?_⟩
    · by_cases h : k = 1
      · exact .inl h
      · rw [if_neg h] at h2; exact .inr h2.symm
    · by_cases h : k = 2
      · exact .inl h
      · rw [if_neg h] at h3; exact .inr h3.symm
    · by_cases h : k = 3
      · exact .inl h
      · rw [if_neg h] at h4; exact .inr (hs.1 h4)
    · by_cases h : k = 4
      · exact .inl h
      · rw [if_neg h] at h5; exact .inr h5.symm
  · rintro ⟨h1, h2, h3, h4, h5⟩
    refine ⟨h1.symm, ?_, ?_, ?_, ?_⟩
    · by_cases h : k = 1
      · rw [if_pos h]
      · rw [if_neg h]; exact (h2.resolve_left h).symm
    · by_cases h : k = 2
      · rw [if_pos h]
      · rw [if_neg h]; exact (h3.resolve_left h).symm
    · by_cases h : k = 3
      · rw [if_pos h]
      · rw [if_neg h]; exact hs.2 (h4.resolve_left h)
    · by_cases h : k = 4
      · rw [if_pos h]
      · rw [if_neg h]; exact (h5.resolve_left h).symm
theorem q_rproper (c : Cl) (k : Int) (H : AHeap) : CC F.rows_proper [.agg ⟨c.l⟩, .int .i64 k] H = some (.bool (XL c k), H) := by
  rw [← xcell_eq]
  obtain ⟨k1, u1, i1, s1, b1⟩ := c
  obtain ⟨H1, hH1⟩ : ∃ H1, H.push (.cells [.int .i64 k1, .int .u64 u1, .int .i64 i1, .string s1, .bool b1] T.api_Cell true) = H1 := ⟨_, rfl⟩
  obtain ⟨H2, hH2⟩ : ∃ H2, (H1.push (.cells [.int .i64 0, .int .u64 0, .int .i64 0, .string (mk []), .bool false] T.api_Cell true)).set H1.n (.cells [.int .i64 k, .int .u64 0, .int .i64 0, .string (mk []), .bool false] T.api_Cell true) = H2 := ⟨_, rfl⟩
  have sA : Yq H H1 := by rw [← hH1]; exact (Fr.refl H).push _
  have sB : Yq H1 H2 := by rw [← hH2]; exact Fr.set ((Fr.refl H1).push _) _ _ (fun h => by omega)
  have nA : H.n < H1.n := by rw [← hH1]; exact Nat.lt_succ_self _
  have f2 : H2.f H1.n = .cells [.int .i64 k, .int .u64 0, .int .i64 0, .string (mk []), .bool false] T.api_Cell true := by rw [← hH2]; exact YC
  have f1 : H2.f H.n = .cells [.int .i64 k1, .int .u64 u1, .int .i64 i1, .string s1, .bool b1] T.api_Cell true := by
    rw [sB.f nA fun h => h, ← hH1]; exact Yu rfl
  have fin : ∀ (xs : List Value), ∃ H3, H2.set H1.n (.cells xs T.api_Cell true) = H3 ∧ H3.f H1.n = .cells xs T.api_Cell true ∧ H3.f H.n = .cells [.int .i64 k1, .int .u64 u1, .int .i64 i1, .string s1, .bool b1] T.api_Cell true ∧ Yq H H3 := fun xs => by
    refine ⟨_, rfl, YC, ?_, (sA.trans sB).then (Fr.set (S := fun c => c = H1.n) (Fr.refl H2) _ _ fun _ => rfl) fun b hb h => by omega⟩
    rw [(Fr.set (S := fun c => c = H1.n) (Fr.refl H2) H1.n (.cells xs T.api_Cell true) fun _ => rfl).f (Nat.lt_of_lt_of_le nA sB.n) (by omega)]
    exact f1
  have ce : ∀ (x : Cl) ox oy, Yf Tryd.prog .eql T.api_Cell ox oy (.agg ⟨x.l⟩) (.agg ⟨[.int .i64 k1, .int .u64 u1, .int .i64 i1, .string s1, .bool b1]⟩) = some (.bool (decide (x = ⟨k1, u1, i1, s1, b1⟩))) := fun x ox oy => cell_eq (b := ⟨k1, u1, i1, s1, b1⟩)
  show CC F.rows_proper [.agg ⟨[.int .i64 k1, .int .u64 u1, .int .i64 i1, .string s1, .bool b1]⟩, .int .i64 k] H = _
  by_cases h1 : k = 1
  · subst h1
    obtain ⟨H3, e3, g3, g4, s3⟩ := fin [.int .i64 1, .int .u64 u1, .int .i64 0, .string (mk []), .bool false]
    have c := ce ⟨1, u1, 0, mk [], false⟩
    unfold Cl.l at c
    dsimp only at c
    apply Yj _ (Ub _ _ H) rfl
    rotate_left 2
    · simp (disch := first | with_reducible rfl | assumption | omega | rfl | (simp only [go_sem]; first | done | omega)) only [go_sem, ↓reduceIte, reduceCtorEq, Nat.reduceEqDiff, Nat.reduceAdd, Nat.reduceSub, Nat.reduceMul, Nat.reduceDiv, Nat.reduceMod, Nat.reduceLeDiff, Nat.reduceLT, Nat.reduceBEq, Int.reduceEq, Int.reduceBEq, Int.reduceBNe, Int.reduceLT, Int.reduceLE, Int.reduceAdd, Int.reduceSub, Int.reduceNeg, Int.reduceToNat, Int.reducePow, Nat.reducePow, Int.reduceMul, Int.reduceDiv, ↓X6, hH1, hH2, f1, f2, e3, g3, g4, c]
      rfl
    · exact s3
  by_cases h2 : k = 2
  · subst h2
    obtain ⟨H3, e3, g3, g4, s3⟩ := fin [.int .i64 2, .int .u64 0, .int .i64 i1, .string (mk []), .bool false]
    have c := ce ⟨2, 0, i1, mk [], false⟩
    unfold Cl.l at c
    dsimp only at c
    apply Yj _ (Ub _ _ H) rfl
    rotate_left 2
    · simp (disch := first | with_reducible rfl | assumption | omega | rfl | (simp only [go_sem]; first | done | omega)) only [go_sem, ↓reduceIte, reduceCtorEq, Nat.reduceEqDiff, Nat.reduceAdd, Nat.reduceSub, Nat.reduceMul, Nat.reduceDiv, Nat.reduceMod, Nat.reduceLeDiff, Nat.reduceLT, Nat.reduceBEq, Int.reduceEq, Int.reduceBEq, Int.reduceBNe, Int.reduceLT, Int.reduceLE, Int.reduceAdd, Int.reduceSub, Int.reduceNeg, Int.reduceToNat, Int.reducePow, Nat.reducePow, Int.reduceMul, Int.reduceDiv, ↓X6, hH1, hH2, f1, f2, e3, g3, g4, c]
      rfl
    · exact s3
  by_cases h3 : k = 3
  · subst h3
    obtain ⟨H3, e3, g3, g4, s3⟩ := fin [.int .i64 3, .int .u64 0, .int .i64 0, .string s1, .bool false]
    have c := ce ⟨3, 0, 0, s1, false⟩
    unfold Cl.l at c
    dsimp only at c
    apply Yj _ (Ub _ _ H) rfl
    rotate_left 2
    · simp (disch := first | with_reducible rfl | assumption | omega | rfl | (simp only [go_sem]; first | done | omega)) only [go_sem, ↓reduceIte, reduceCtorEq, Nat.reduceEqDiff, Nat.reduceAdd, Nat.reduceSub, Nat.reduceMul, Nat.reduceDiv, Nat.reduceMod, Nat.reduceLeDiff, Nat.reduceLT, Nat.reduceBEq, Int.reduceEq, Int.reduceBEq, Int.reduceBNe, Int.reduceLT, Int.reduceLE, Int.reduceAdd, Int.reduceSub, Int.reduceNeg, Int.reduceToNat, Int.reducePow, Nat.reducePow, Int.reduceMul, Int.reduceDiv, ↓X6, hH1, hH2, f1, f2, e3, g3, g4, c]
      rfl
    · exact s3
  by_cases h4 : k = 4
  · subst h4
    obtain ⟨H3, e3, g3, g4, s3⟩ := fin [.int .i64 4, .int .u64 0, .int .i64 0, .string (mk []), .bool b1]
    have c := ce ⟨4, 0, 0, mk [], b1⟩
    unfold Cl.l at c
    dsimp only at c
    apply Yj _ (Ub _ _ H) rfl
    rotate_left 2
    · simp (disch := first | with_reducible rfl | assumption | omega | rfl | (simp only [go_sem]; first | done | omega)) only [go_sem, ↓reduceIte, reduceCtorEq, Nat.reduceEqDiff, Nat.reduceAdd, Nat.reduceSub, Nat.reduceMul, Nat.reduceDiv, Nat.reduceMod, Nat.reduceLeDiff, Nat.reduceLT, Nat.reduceBEq, Int.reduceEq, Int.reduceBEq, Int.reduceBNe, Int.reduceLT, Int.reduceLE, Int.reduceAdd, Int.reduceSub, Int.reduceNeg, Int.reduceToNat, Int.reducePow, Nat.reducePow, Int.reduceMul, Int.reduceDiv, ↓X6, hH1, hH2, f1, f2, e3, g3, g4, c]
      rfl
    · exact s3
  · have c := ce ⟨k, 0, 0, mk [], false⟩
    unfold Cl.l at c
    dsimp only at c
    have e : xcell ⟨k1, u1, i1, s1, b1⟩ k = ⟨k, 0, 0, mk [], false⟩ := by unfold xcell; simp [h1, h2, h3, h4]
    rw [e]
    apply Yj _ (Ub _ _ H) rfl
    rotate_left 2
    · simp (disch := first | with_reducible rfl | assumption | omega | rfl | (simp only [go_sem]; first | done | omega)) only [go_sem, ↓reduceIte, reduceCtorEq, Nat.reduceEqDiff, Nat.reduceAdd, Nat.reduceSub, Nat.reduceMul, Nat.reduceDiv, Nat.reduceMod, Nat.reduceLeDiff, Nat.reduceLT, Nat.reduceBEq, Int.reduceEq, Int.reduceBEq, Int.reduceBNe, Int.reduceLT, Int.reduceLE, Int.reduceAdd, Int.reduceSub, Int.reduceNeg, Int.reduceToNat, Int.reducePow, Nat.reducePow, Int.reduceMul, Int.reduceDiv, ↓X6, hH1, hH2, f1, f2, h1, h2, h3, h4, c]
      rfl
    · exact sA.trans sB
def VQ : List Cl → List Int → Bool
  | [], _ => true
  | _ :: _, [] => false
  | c :: l, k :: ks => XL c k && VQ l ks
theorem l_are (l : List Cl) (ks : List Int) (v w : Value) (H0 : AHeap) (hv : Rd ECl H0 v l) (hw : KR H0 w ks) (hl : l.length = ks.length) (h1 : l.length ≤ 1000) : ∀ (t : List Cl) (kt : List Int) (i : Nat) (H : AHeap), l.drop i = t → ks.drop i = kt → Yq H0 H →
    (VQ t kt = true → ∃ H', Yq H0 H' ∧ ∀ K : K, Wu w v (.int .i64 (l.length : Int)) (.int .i64 (i : Int)) H (YI [] 0 K) = K .normal [] H') ∧
    (VQ t kt = false → ∃ H', Yq H0 H' ∧ ∀ K : K, Wu w v (.int .i64 (l.length : Int)) (.int .i64 (i : Int)) H (YI [] 0 K) = K .ret [(4, .bool false)] H')
  | [], kt, i, H, hx, hy, s => by
    have h : l.length ≤ i := List.drop_eq_nil_iff.1 hx
    have hlt : ¬ (i : Int) < (l.length : Int) := by omega
    refine ⟨fun _ => ⟨H, s, fun K => ?_⟩, fun h => by simp [VQ] at h⟩
    rw [QD]
    simp (disch := first | with_reducible rfl | assumption | omega | rfl | (simp only [go_sem]; first | done | omega)) only [go_sem, ↓reduceIte, reduceCtorEq, Nat.reduceEqDiff, Nat.reduceAdd, Nat.reduceSub, Nat.reduceMul, Nat.reduceDiv, Nat.reduceMod, Nat.reduceLeDiff, Nat.reduceLT, Nat.reduceBEq, Int.reduceEq, Int.reduceBEq, Int.reduceBNe, Int.reduceLT, Int.reduceLE, Int.reduceAdd, Int.reduceSub, Int.reduceNeg, Int.reduceToNat, Int.reducePow, Nat.reducePow, Int.reduceMul, Int.reduceDiv, ↓Vu, hlt]
  | c :: t, [], i, H, hx, hy, s => by
    obtain ⟨h, _⟩ := WB hx
    have h2 : ks.length ≤ i := List.drop_eq_nil_iff.1 hy
    omega
  | c :: t, k :: kt, i, H, hx, hy, s => by
    obtain ⟨h, hxa, hx'⟩ := WB hx
    obtain ⟨h2, hyb, hy'⟩ := WB hy
    have hlt : (i : Int) < (l.length : Int) := by omega
    obtain ⟨b1, o1, i1, c1, _⟩ := rd_cell (hv.still s) h
    rw [hxa] at c1
    obtain ⟨H1, hH1⟩ : ∃ H1, (H.push (.cells [.int .i64 0, .int .u64 0, .int .i64 0, .string (mk []), .bool false] T.api_Cell true)).set H.n (.cells c.l T.api_Cell true) = H1 := ⟨_, rfl⟩
    have s1 : Yq H H1 := by rw [← hH1]; exact Fr.set ((Fr.refl H).push _) _ _ (fun h => by omega)
    have f1 : H1.f H.n = .cells c.l T.api_Cell true := by rw [← hH1]; exact YC
    obtain ⟨b2, o2, i2, c2⟩ := rd_kind ((hw.still s).still s1) h2 (iv := (i : Int)) rfl
    rw [hyb] at c2
    have m1 := q_rproper c k H1
    obtain ⟨ih1, ih2⟩ := l_are l ks v w H0 hv hw hl h1 t kt (i + 1) H1 hx' hy' (s.trans s1)
    unfold Cl.l at hH1 f1 c1 m1
    rw [show VQ (c :: t) (k :: kt) = (XL c k && VQ t kt) from rfl]
    cases hp : XL c k with
    | false =>
      rw [hp] at m1
      rw [Bool.false_and]
      refine ⟨fun h => by simp at h, fun _ => ⟨H1, s.trans s1, fun K => ?_⟩⟩
      rw [QD]
      simp (disch := first | with_reducible rfl | assumption | omega | rfl | (simp only [go_sem]; first | done | omega)) only [go_sem, ↓reduceIte, reduceCtorEq, Nat.reduceEqDiff, Nat.reduceAdd, Nat.reduceSub, Nat.reduceMul, Nat.reduceDiv, Nat.reduceMod, Nat.reduceLeDiff, Nat.reduceLT, Nat.reduceBEq, Int.reduceEq, Int.reduceBEq, Int.reduceBNe, Int.reduceLT, Int.reduceLE, Int.reduceAdd, Int.reduceSub, Int.reduceNeg, Int.reduceToNat, Int.reducePow, Nat.reducePow, Int.reduceMul, Int.reduceDiv, ↓Vu, hlt, i1, c1, hH1, f1, i2, c2, ↓Ya m1, Ya m1]
    | true =>
      rw [hp] at m1
      rw [Bool.true_and]
      refine ⟨fun h3 => ?_, fun h3 => ?_⟩
      · obtain ⟨H', s', e'⟩ := ih1 h3
        refine ⟨H', s', fun K => ?_⟩
        have := e' K
        rw [QD]
        simp (disch := first | with_reducible rfl | assumption | omega | rfl | (simp only [go_sem]; first | done | omega)) only [go_sem, ↓reduceIte, reduceCtorEq, Nat.reduceEqDiff, Nat.reduceAdd, Nat.reduceSub, Nat.reduceMul, Nat.reduceDiv, Nat.reduceMod, Nat.reduceLeDiff, Nat.reduceLT, Nat.reduceBEq, Int.reduceEq, Int.reduceBEq, Int.reduceBNe, Int.reduceLT, Int.reduceLE, Int.reduceAdd, Int.reduceSub, Int.reduceNeg, Int.reduceToNat, Int.reducePow, Nat.reducePow, Int.reduceMul, Int.reduceDiv, ↓Vu, hlt, i1, c1, hH1, f1, i2, c2, ↓Ya m1, Ya m1]
        exact this
      · obtain ⟨H', s', e'⟩ := ih2 h3
        refine ⟨H', s', fun K => ?_⟩
        have := e' K
        rw [QD]
        simp (disch := first | with_reducible rfl | assumption | omega | rfl | (simp only [go_sem]; first | done | omega)) only [go_sem, ↓reduceIte, reduceCtorEq, Nat.reduceEqDiff, Nat.reduceAdd, Nat.reduceSub, Nat.reduceMul, Nat.reduceDiv, Nat.reduceMod, Nat.reduceLeDiff, Nat.reduceLT, Nat.reduceBEq, Int.reduceEq, Int.reduceBEq, Int.reduceBNe, Int.reduceLT, Int.reduceLE, Int.reduceAdd, Int.reduceSub, Int.reduceNeg, Int.reduceToNat, Int.reducePow, Nat.reducePow, Int.reduceMul, Int.reduceDiv, ↓Vu, hlt, i1, c1, hH1, f1, i2, c2, ↓Ya m1, Ya m1]
        exact this
def Vf (l : List Cl) (ks : List Int) : Bool := decide (l.length = ks.length) && VQ l ks
theorem q_are (l : List Cl) (ks : List Int) (v w : Value) (H : AHeap) (hv : Rd ECl H v l) (hw : KR H w ks) (h1 : l.length ≤ 1000) : CC F.rows_are [v, w] H = some (.bool (Vf l ks), H) := by
  have l1 := hv.lenS
  have l2 := hw.1.lenS
  unfold Vf
  by_cases hl : l.length = ks.length
  · have he : ((l.length : Int) = (ks.length : Int)) = True := by simp [hl]
    rw [decide_eq_true hl, Bool.true_and]
    obtain ⟨z1, z2⟩ := l_are l ks v w H hv hw hl h1 l ks 0 H rfl rfl (Fr.refl H)
    cases h : VQ l ks with
    | true =>
      obtain ⟨H', s', z1⟩ := z1 h
      have z1 : ∀ K : K, Wu w v (.int .i64 (l.length : Int)) (.int .i64 0) H (YI [] 0 K) = K .normal [] H' := z1
      apply Yj _ (d_rows_are _ _ H) rfl
      rotate_left 2
      · simp (disch := first | with_reducible rfl | assumption | omega | rfl | (simp only [go_sem]; first | done | omega)) only [go_sem, ↓reduceIte, reduceCtorEq, Nat.reduceEqDiff, Nat.reduceAdd, Nat.reduceSub, Nat.reduceMul, Nat.reduceDiv, Nat.reduceMod, Nat.reduceLeDiff, Nat.reduceLT, Nat.reduceBEq, Int.reduceEq, Int.reduceBEq, Int.reduceBNe, Int.reduceLT, Int.reduceLE, Int.reduceAdd, Int.reduceSub, Int.reduceNeg, Int.reduceToNat, Int.reducePow, Nat.reducePow, Int.reduceMul, Int.reduceDiv, ↓Um, l1, l2, he, z1]
        rfl
      · exact s'
    | false =>
      obtain ⟨H', s', z2⟩ := z2 h
      have z2 : ∀ K : K, Wu w v (.int .i64 (l.length : Int)) (.int .i64 0) H (YI [] 0 K) = K .ret [(4, .bool false)] H' := z2
      apply Yj _ (d_rows_are _ _ H) rfl
      rotate_left 2
      · simp (disch := first | with_reducible rfl | assumption | omega | rfl | (simp only [go_sem]; first | done | omega)) only [go_sem, ↓reduceIte, reduceCtorEq, Nat.reduceEqDiff, Nat.reduceAdd, Nat.reduceSub, Nat.reduceMul, Nat.reduceDiv, Nat.reduceMod, Nat.reduceLeDiff, Nat.reduceLT, Nat.reduceBEq, Int.reduceEq, Int.reduceBEq, Int.reduceBNe, Int.reduceLT, Int.reduceLE, Int.reduceAdd, Int.reduceSub, Int.reduceNeg, Int.reduceToNat, Int.reducePow, Nat.reducePow, Int.reduceMul, Int.reduceDiv, ↓Um, l1, l2, he, z2]
        rfl
      · exact s'
  · have he : ¬ ((l.length : Int) = (ks.length : Int)) := by omega
    rw [decide_eq_false hl, Bool.false_and]
    apply Yj _ (d_rows_are _ _ H) rfl
    rotate_left 2
    · simp (disch := first | with_reducible rfl | assumption | omega | rfl | (simp only [go_sem]; first | done | omega)) only [go_sem, ↓reduceIte, reduceCtorEq, Nat.reduceEqDiff, Nat.reduceAdd, Nat.reduceSub, Nat.reduceMul, Nat.reduceDiv, Nat.reduceMod, Nat.reduceLeDiff, Nat.reduceLT, Nat.reduceBEq, Int.reduceEq, Int.reduceBEq, Int.reduceBNe, Int.reduceLT, Int.reduceLE, Int.reduceAdd, Int.reduceSub, Int.reduceNeg, Int.reduceToNat, Int.reducePow, Nat.reducePow, Int.reduceMul, Int.reduceDiv, ↓Um, l1, l2, he]
      rfl
    · (repeat (first | exact Fr.refl _ | refine Fr.push ?_ _ | refine Fr.set ?_ _ _ (by intro h; first | omega | (simp only [go_sem] at h; omega))))
end Go.Proofs.YtmiinbhnfojnbaaDoor

set_option maxRecDepth 10000
namespace Go.Proofs.YtmiinbhnfojnbaaDoor
open Go Eng
theorem q_kind (k : Int) (H : AHeap) : CC F.rows_kind [.int .i64 k] H = some (.bool (Vi k), H) := by
  unfold Vi
  by_cases h1 : 1 ≤ k
  · rw [decide_eq_true h1, Bool.true_and]
    apply Yj _ (d_rows_kind _ H) rfl
    rotate_left 2
    · simp (disch := first | with_reducible rfl | assumption | omega | rfl | (simp only [go_sem]; first | done | omega)) only [go_sem, ↓reduceIte, reduceCtorEq, Nat.reduceEqDiff, Nat.reduceAdd, Nat.reduceSub, Nat.reduceMul, Nat.reduceDiv, Nat.reduceMod, Nat.reduceLeDiff, Nat.reduceLT, Nat.reduceBEq, Int.reduceEq, Int.reduceBEq, Int.reduceBNe, Int.reduceLT, Int.reduceLE, Int.reduceAdd, Int.reduceSub, Int.reduceNeg, Int.reduceToNat, Int.reducePow, Nat.reducePow, Int.reduceMul, Int.reduceDiv, ↓Us, h1]
      rfl
    · (repeat (first | exact Fr.refl _ | refine Fr.push ?_ _ | refine Fr.set ?_ _ _ (by intro h; first | omega | (simp only [go_sem] at h; omega))))
  · rw [decide_eq_false h1, Bool.false_and]
    apply Yj _ (d_rows_kind _ H) rfl
    rotate_left 2
    · simp (disch := first | with_reducible rfl | assumption | omega | rfl | (simp only [go_sem]; first | done | omega)) only [go_sem, ↓reduceIte, reduceCtorEq, Nat.reduceEqDiff, Nat.reduceAdd, Nat.reduceSub, Nat.reduceMul, Nat.reduceDiv, Nat.reduceMod, Nat.reduceLeDiff, Nat.reduceLT, Nat.reduceBEq, Int.reduceEq, Int.reduceBEq, Int.reduceBNe, Int.reduceLT, Int.reduceLE, Int.reduceAdd, Int.reduceSub, Int.reduceNeg, Int.reduceToNat, Int.reducePow, Nat.reducePow, Int.reduceMul, Int.reduceDiv, ↓Us, h1]
      rfl
    · (repeat (first | exact Fr.refl _ | refine Fr.push ?_ _ | refine Fr.set ?_ _ _ (by intro h; first | omega | (simp only [go_sem] at h; omega))))
theorem q_Valid_1 (x : Int) (H : AHeap) : CC F.rows_Valid_1 [.int .i64 x] H = some (.bool (!Vi x), H) := by
  have m1 := q_kind x H
  apply Yj _ (d_rows_Valid_1 _ H) rfl
  rotate_left 2
  · simp (disch := first | with_reducible rfl | assumption | omega | rfl | (simp only [go_sem]; first | done | omega)) only [go_sem, ↓reduceIte, reduceCtorEq, Nat.reduceEqDiff, Nat.reduceAdd, Nat.reduceSub, Nat.reduceMul, Nat.reduceDiv, Nat.reduceMod, Nat.reduceLeDiff, Nat.reduceLT, Nat.reduceBEq, Int.reduceEq, Int.reduceBEq, Int.reduceBNe, Int.reduceLT, Int.reduceLE, Int.reduceAdd, Int.reduceSub, Int.reduceNeg, Int.reduceToNat, Int.reducePow, Nat.reducePow, Int.reduceMul, Int.reduceDiv, ↓VR, ↓Ya m1, Ya m1]
    rfl
  · (repeat (first | exact Fr.refl _ | refine Fr.push ?_ _ | refine Fr.set ?_ _ _ (by intro h; first | omega | (simp only [go_sem] at h; omega))))
@[go_sem, go_sem ↓] theorem e_Valid_1 (x : Int) (H : AHeap) {k : Value → AHeap → Res} : Yh CC F.rows_Valid_1 [.int .i64 x] H k = k (.bool (!Vi x)) H := Ya (q_Valid_1 x H)
theorem l_index (l : List Int) (v : Value) (H : AHeap) (hr : KR H v l) (hl : l.length ≤ 1000) : ∀ (t : List Int) (i : Nat), l.drop i = t →
    (t.all Vi = true → ∀ K : K, Yx v (.func (.func F.rows_Valid_1) #[] #[]) (.int .i64 (l.length : Int)) (.int .i64 (i : Int)) H (YI [] 0 K) = K .normal [] H) ∧
    (t.all Vi = false → ∃ j : Int, 0 ≤ j ∧ ∀ K : K, Yx v (.func (.func F.rows_Valid_1) #[] #[]) (.int .i64 (l.length : Int)) (.int .i64 (i : Int)) H (YI [] 0 K) = K .ret [(4, .int .i64 j)] H)
  | [], i, hx => by
    have h : l.length ≤ i := List.drop_eq_nil_iff.1 hx
    have hlt : ¬ (i : Int) < (l.length : Int) := by omega
    refine ⟨fun _ K => ?_, fun h => by simp at h⟩
    rw [Xu]
    simp (disch := first | with_reducible rfl | assumption | omega | rfl | (simp only [go_sem]; first | done | omega)) only [go_sem, ↓reduceIte, reduceCtorEq, Nat.reduceEqDiff, Nat.reduceAdd, Nat.reduceSub, Nat.reduceMul, Nat.reduceDiv, Nat.reduceMod, Nat.reduceLeDiff, Nat.reduceLT, Nat.reduceBEq, Int.reduceEq, Int.reduceBEq, Int.reduceBNe, Int.reduceLT, Int.reduceLE, Int.reduceAdd, Int.reduceSub, Int.reduceNeg, Int.reduceToNat, Int.reducePow, Nat.reducePow, Int.reduceMul, Int.reduceDiv, ↓YU, hlt]
  | k :: t, i, hx => by
    obtain ⟨h, hxa, hx'⟩ := WB hx
    have hlt : (i : Int) < (l.length : Int) := by omega
    obtain ⟨b2, o2, i2, c2⟩ := rd_kind hr h (iv := (i : Int)) rfl
    rw [hxa] at c2
    obtain ⟨k1, k2⟩ := l_index l v H hr hl t (i + 1) hx'
    rw [Int.natCast_add] at k1 k2
    rw [List.all_cons]
    cases hp : Vi k with
    | false =>
      rw [Bool.false_and]
      refine ⟨fun h => by simp at h, fun _ => ⟨(i : Int), by omega, fun K => ?_⟩⟩
      rw [Xu]
      simp (disch := first | with_reducible rfl | assumption | omega | rfl | (simp only [go_sem]; first | done | omega)) only [go_sem, ↓reduceIte, reduceCtorEq, Nat.reduceEqDiff, Nat.reduceAdd, Nat.reduceSub, Nat.reduceMul, Nat.reduceDiv, Nat.reduceMod, Nat.reduceLeDiff, Nat.reduceLT, Nat.reduceBEq, Int.reduceEq, Int.reduceBEq, Int.reduceBNe, Int.reduceLT, Int.reduceLE, Int.reduceAdd, Int.reduceSub, Int.reduceNeg, Int.reduceToNat, Int.reducePow, Nat.reducePow, Int.reduceMul, Int.reduceDiv, ↓YU, hlt, i2, c2, QO, e_Valid_1, hp, Bool.not_false]
    | true =>
      rw [Bool.true_and]
      refine ⟨fun h3 K => ?_, fun h3 => ?_⟩
      · have := k1 h3 K
        rw [Xu]
        simp (disch := first | with_reducible rfl | assumption | omega | rfl | (simp only [go_sem]; first | done | omega)) only [go_sem, ↓reduceIte, reduceCtorEq, Nat.reduceEqDiff, Nat.reduceAdd, Nat.reduceSub, Nat.reduceMul, Nat.reduceDiv, Nat.reduceMod, Nat.reduceLeDiff, Nat.reduceLT, Nat.reduceBEq, Int.reduceEq, Int.reduceBEq, Int.reduceBNe, Int.reduceLT, Int.reduceLE, Int.reduceAdd, Int.reduceSub, Int.reduceNeg, Int.reduceToNat, Int.reducePow, Nat.reducePow, Int.reduceMul, Int.reduceDiv, ↓YU, hlt, i2, c2, QO, e_Valid_1, hp, Bool.not_true]
        exact this
      · obtain ⟨j, hj, e⟩ := k2 h3
        refine ⟨j, hj, fun K => ?_⟩
        have := e K
        rw [Xu]
        simp (disch := first | with_reducible rfl | assumption | omega | rfl | (simp only [go_sem]; first | done | omega)) only [go_sem, ↓reduceIte, reduceCtorEq, Nat.reduceEqDiff, Nat.reduceAdd, Nat.reduceSub, Nat.reduceMul, Nat.reduceDiv, Nat.reduceMod, Nat.reduceLeDiff, Nat.reduceLT, Nat.reduceBEq, Int.reduceEq, Int.reduceBEq, Int.reduceBNe, Int.reduceLT, Int.reduceLE, Int.reduceAdd, Int.reduceSub, Int.reduceNeg, Int.reduceToNat, Int.reducePow, Nat.reducePow, Int.reduceMul, Int.reduceDiv, ↓YU, hlt, i2, c2, QO, e_Valid_1, hp, Bool.not_true]
        exact this
theorem q_Rcontains (l : List Int) (v : Value) (H : AHeap) (hr : KR H v l) (hl : l.length ≤ 1000) : CC F.slices_ContainsFunc_CellKind [v, .func (.func F.rows_Valid_1) #[] #[]] H = some (.bool (!l.all Vi), H) := by
  have hlen := hr.1.lenS
  obtain ⟨z1, z2⟩ := l_index l v H hr hl l 0 rfl
  cases h : l.all Vi with
  | true =>
    have z1 : ∀ K : K, Yx v (.func (.func F.rows_Valid_1) #[] #[]) (.int .i64 (l.length : Int)) (.int .i64 0) H (YI [] 0 K) = K .normal [] H := z1 h
    have m1 : CC F.slices_IndexFunc_CellKind [v, .func (.func F.rows_Valid_1) #[] #[]] H = some (.int .i64 (-1), H) := by
      apply Yj _ (VE _ _ H) rfl
      rotate_left 2
      · simp (disch := first | with_reducible rfl | assumption | omega | rfl | (simp only [go_sem]; first | done | omega)) only [go_sem, ↓reduceIte, reduceCtorEq, Nat.reduceEqDiff, Nat.reduceAdd, Nat.reduceSub, Nat.reduceMul, Nat.reduceDiv, Nat.reduceMod, Nat.reduceLeDiff, Nat.reduceLT, Nat.reduceBEq, Int.reduceEq, Int.reduceBEq, Int.reduceBNe, Int.reduceLT, Int.reduceLE, Int.reduceAdd, Int.reduceSub, Int.reduceNeg, Int.reduceToNat, Int.reducePow, Nat.reducePow, Int.reduceMul, Int.reduceDiv, ↓Y2, hlen, z1]
        rfl
      · (repeat (first | exact Fr.refl _ | refine Fr.push ?_ _ | refine Fr.set ?_ _ _ (by intro h; first | omega | (simp only [go_sem] at h; omega))))
    apply Yj _ (Vd _ _ H) rfl
    rotate_left 2
    · simp (disch := first | with_reducible rfl | assumption | omega | rfl | (simp only [go_sem]; first | done | omega)) only [go_sem, ↓reduceIte, reduceCtorEq, Nat.reduceEqDiff, Nat.reduceAdd, Nat.reduceSub, Nat.reduceMul, Nat.reduceDiv, Nat.reduceMod, Nat.reduceLeDiff, Nat.reduceLT, Nat.reduceBEq, Int.reduceEq, Int.reduceBEq, Int.reduceBNe, Int.reduceLT, Int.reduceLE, Int.reduceAdd, Int.reduceSub, Int.reduceNeg, Int.reduceToNat, Int.reducePow, Nat.reducePow, Int.reduceMul, Int.reduceDiv, ↓YV, ↓Ya m1, Ya m1]
      rfl
    · (repeat (first | exact Fr.refl _ | refine Fr.push ?_ _ | refine Fr.set ?_ _ _ (by intro h; first | omega | (simp only [go_sem] at h; omega))))
  | false =>
    obtain ⟨j, hj, z2⟩ := z2 h
    have z2 : ∀ K : K, Yx v (.func (.func F.rows_Valid_1) #[] #[]) (.int .i64 (l.length : Int)) (.int .i64 0) H (YI [] 0 K) = K .ret [(4, .int .i64 j)] H := z2
    have m1 : CC F.slices_IndexFunc_CellKind [v, .func (.func F.rows_Valid_1) #[] #[]] H = some (.int .i64 j, H) := by
      apply Yj _ (VE _ _ H) rfl
      rotate_left 2
      · simp (disch := first | with_reducible rfl | assumption | omega | rfl | (simp only [go_sem]; first | done | omega)) only [go_sem, ↓reduceIte, reduceCtorEq, Nat.reduceEqDiff, Nat.reduceAdd, Nat.reduceSub, Nat.reduceMul, Nat.reduceDiv, Nat.reduceMod, Nat.reduceLeDiff, Nat.reduceLT, Nat.reduceBEq, Int.reduceEq, Int.reduceBEq, Int.reduceBNe, Int.reduceLT, Int.reduceLE, Int.reduceAdd, Int.reduceSub, Int.reduceNeg, Int.reduceToNat, Int.reducePow, Nat.reducePow, Int.reduceMul, Int.reduceDiv, ↓Y2, hlen, z2]
        rfl
      · (repeat (first | exact Fr.refl _ | refine Fr.push ?_ _ | refine Fr.set ?_ _ _ (by intro h; first | omega | (simp only [go_sem] at h; omega))))
    apply Yj _ (Vd _ _ H) rfl
    rotate_left 2
    · simp (disch := first | with_reducible rfl | assumption | omega | rfl | (simp only [go_sem]; first | done | omega)) only [go_sem, ↓reduceIte, reduceCtorEq, Nat.reduceEqDiff, Nat.reduceAdd, Nat.reduceSub, Nat.reduceMul, Nat.reduceDiv, Nat.reduceMod, Nat.reduceLeDiff, Nat.reduceLT, Nat.reduceBEq, Int.reduceEq, Int.reduceBEq, Int.reduceBNe, Int.reduceLT, Int.reduceLE, Int.reduceAdd, Int.reduceSub, Int.reduceNeg, Int.reduceToNat, Int.reducePow, Nat.reducePow, Int.reduceMul, Int.reduceDiv, ↓YV, ↓Ya m1, Ya m1, hj]
      rfl
    · (repeat (first | exact Fr.refl _ | refine Fr.push ?_ _ | refine Fr.set ?_ _ _ (by intro h; first | omega | (simp only [go_sem] at h; omega))))
end Go.Proofs.YtmiinbhnfojnbaaDoor

set_option maxRecDepth 10000
namespace Go.Proofs.YtmiinbhnfojnbaaDoor
open Go Eng
theorem zeros_K : ∀ n : Nat, zeros [.int .i64 0] n = EK.cells (List.replicate n 0)
  | 0 => rfl
  | n + 1 => by rw [zeros, zeros_K n, List.replicate_succ]; rfl
structure SinceK (H0 H : AHeap) (v : Value) (l : List Int) : Prop where
  still : Yq H0 H
  own : Own EK H T.api_CellKind v l
  new : ∀ b, Yk v = some b → H0.n ≤ b
theorem SinceK.app {H0 H : AHeap} {v : Value} {l : List Int} (r : SinceK H0 H v l) (m : List Int) {src : Option (Nat × List Value)} (hsrc : src = some (m.length, EK.cells m)) (hb : l.length + m.length ≤ 1000000) :
    ∃ v' H', Eng.app T.api_CellKind 1 8 v src H = some (v', H') ∧ SinceK H0 H' v' (l ++ m) := by
  obtain ⟨v', H', e1, e2, e3, e4⟩ := r.own.appA m (sz := 1) (bytes := 8) rfl (by omega) (by omega) hsrc
  refine ⟨v', H', e1, r.still.then e3 fun b hb h => ?_, e2, fun b h => ?_⟩
  · unfold WP at h; have := r.new b h; omega
  · rcases e4 with h4 | h4
    · rw [h4] at h; exact r.new b h
    · rw [h4] at h; cases h; exact r.still.n
theorem q_Grow (n : Nat) (H : AHeap) (h1 : 1 ≤ n) (h2 : n ≤ 1000) : ∃ v' H', CC F.slices_Grow_CellKind [.slice none 0 0, .int .i64 (n : Int)] H = some (v', H') ∧ SinceK H H' v' [] := by
  have s0 : SinceK H H (.slice none 0 0) [] := ⟨Fr.refl H, .inl ⟨rfl, rfl⟩, fun b h => by cases h⟩
  have hsrc : srcZ [.int .i64 0] 8 (.int .i64 (n : Int)) = some ((List.replicate n (0 : Int)).length, EK.cells (List.replicate n 0)) := by
    unfold srcZ
    simp only
    rw [if_pos ⟨by omega, by omega, by omega⟩, Int.toNat_natCast, zeros_K, List.length_replicate]
  obtain ⟨v1, H1, a1, s1⟩ := s0.app (List.replicate n 0) hsrc (by simp; omega)
  have hcap : ∀ H : AHeap, YN Tryd.prog .cap [T.sl_api_CellKind] [.slice none 0 0] H = some (.val (.int .i64 0) H) := fun H => rfl
  have sl0 : ∀ H : AHeap, slS T.api_CellKind 1 (.slice none 0 0) none (some (.int .i64 0)) none H = some (.slice none 0 0) := fun H => rfl
  have hn0 : ¬ (n : Int) < 0 := by omega
  have hn1 : 0 < (n : Int) := by omega
  have l0 : lenS (.slice none 0 0) = some (.int .i64 0) := rfl
  obtain ⟨hs, ho, hn⟩ := s1
  rcases ho with ⟨e, _⟩ | ⟨e, _⟩ | ⟨b, o, c, xs, rfl, hl, hb, hf, hoc, hx⟩
  · simp at e; omega
  · simp at e; omega
  · have sl1 := sl_hi (e := T.api_CellKind) (H := H1) (b := b) (o := o) (n := ([] ++ List.replicate n (0 : Int)).length) (c := c) (i := 0) (sz := 1) (q := .i64) hf (Nat.zero_le _)
    have sl1 : slS T.api_CellKind 1 (.slice (some ⟨b, o, none⟩) ([] ++ List.replicate n (0 : Int)).length (2 * c + 1)) none (some (.int .i64 0)) none H1 = some (.slice (some ⟨b, o, none⟩) 0 (2 * c + 1)) := sl1
    refine ⟨.slice (some ⟨b, o, none⟩) 0 (2 * c + 1), H1, (Z5 _ _ H ?_).trans (congrArg some (WK rfl)), hs, .inr (.inr ⟨b, o, c, xs, rfl, Nat.zero_le _, hb, hf, hoc, by simp [EK]⟩), hn⟩
    generalize ([] ++ List.replicate n (0 : Int)).length = L at a1 sl1
    simp (disch := first | with_reducible rfl | assumption | omega | rfl | (simp only [go_sem]; first | done | omega)) only [go_sem, ↓reduceIte, reduceCtorEq, Nat.reduceEqDiff, Nat.reduceAdd, Nat.reduceSub, Nat.reduceMul, Nat.reduceDiv, Nat.reduceMod, Nat.reduceLeDiff, Nat.reduceLT, Nat.reduceBEq, Int.reduceEq, Int.reduceBEq, Int.reduceBNe, Int.reduceLT, Int.reduceLE, Int.reduceAdd, Int.reduceSub, Int.reduceNeg, Int.reduceToNat, Int.reducePow, Nat.reducePow, Int.reduceMul, Int.reduceDiv, ↓XN, hn0, hcap, l0, Int.sub_zero, hn1, sl0, a1, sl1]
theorem q_Concat (b : Nat) (kv rv : Value) (kl rl : List Int) (H : AHeap) (hb : b < H.n) (hf : H.f b = .cells [kv, rv] T.sl_api_CellKind true) (hk : KR H kv kl) (hr : KR H rv rl) (h1 : 1 ≤ kl.length) (h8 : kl.length ≤ 8) (h8' : rl.length ≤ 8) :
    ∃ v' H', CC F.slices_Concat_CellKind [.slice (some ⟨b, 0, none⟩) 2 4] H = some (v', H') ∧ KR H' v' (kl ++ rl) ∧ Yq H H' := by
  have lk := hk.1.lenS
  have lr := hr.1.lenS
  have ix0 : ixS 1 (.slice (some ⟨b, 0, none⟩) 2 4) (.int .i64 0) = some (.pointer (some ⟨b, 0, none⟩)) := rfl
  have ix1 : ixS 1 (.slice (some ⟨b, 0, none⟩) 2 4) (.int .i64 1) = some (.pointer (some ⟨b, 1, none⟩)) := rfl
  have c0 : ∀ {Hx : AHeap}, Yq H Hx → X4 (Hx.f b) 0 = some kv ∧ X4 (Hx.f b) 1 = some rv := fun s => by
    rw [s.f hb fun h => h, hf]; exact ⟨rfl, rfl⟩
  obtain ⟨g0, g1⟩ := c0 (Fr.refl H)
  obtain ⟨n, hn⟩ : ∃ n : Nat, (kl.length : Int) + (rl.length : Int) = n := ⟨kl.length + rl.length, by omega⟩
  have nk : ¬ (kl.length : Int) < 0 := by omega
  have nn : ¬ (n : Int) < 0 := by omega
  have add0 : ∀ ox oy, Yf Tryd.prog .add T.int ox oy (.int .i64 0) (.int .i64 (kl.length : Int)) = some (.int .i64 (kl.length : Int)) := fun ox oy => by
    have := add_i64 (P := Tryd.prog) (t := T.int) (ox := ox) (oy := oy) (a := 0) (b := (kl.length : Int)) (by omega)
    rwa [Int.zero_add] at this
  have add1 : ∀ ox oy, Yf Tryd.prog .add T.int ox oy (.int .i64 (kl.length : Int)) (.int .i64 (rl.length : Int)) = some (.int .i64 (n : Int)) := fun ox oy => by rw [← hn]; exact add_i64 (by omega)
  have e2 : ∀ (x : Value) (K : K), YD (.slice (some ⟨b, 0, none⟩) 2 4) x (.slice (some ⟨b, 0, none⟩) 2 4) (.int .i64 2) (.int .i64 2) H (YI [0, 3] 0 K) = K .normal [(0, .slice (some ⟨b, 0, none⟩) 2 4), (3, x)] H := fun x K => by
    rw [WL]
    simp (disch := first | with_reducible rfl | assumption | omega | rfl | (simp only [go_sem]; first | done | omega)) only [go_sem, ↓reduceIte, reduceCtorEq, Nat.reduceEqDiff, Nat.reduceAdd, Nat.reduceSub, Nat.reduceMul, Nat.reduceDiv, Nat.reduceMod, Nat.reduceLeDiff, Nat.reduceLT, Nat.reduceBEq, Int.reduceEq, Int.reduceBEq, Int.reduceBNe, Int.reduceLT, Int.reduceLE, Int.reduceAdd, Int.reduceSub, Int.reduceNeg, Int.reduceToNat, Int.reducePow, Nat.reducePow, Int.reduceMul, Int.reduceDiv, ↓Y9]
  have e1 : ∀ (K : K), YD (.slice (some ⟨b, 0, none⟩) 2 4) (.int .i64 (kl.length : Int)) (.slice (some ⟨b, 0, none⟩) 2 4) (.int .i64 2) (.int .i64 1) H (YI [0, 3] 0 K) = K .normal [(0, .slice (some ⟨b, 0, none⟩) 2 4), (3, .int .i64 (n : Int))] H := fun K => by
    rw [WL]
    simp (disch := first | with_reducible rfl | assumption | omega | rfl | (simp only [go_sem]; first | done | omega)) only [go_sem, ↓reduceIte, reduceCtorEq, Nat.reduceEqDiff, Nat.reduceAdd, Nat.reduceSub, Nat.reduceMul, Nat.reduceDiv, Nat.reduceMod, Nat.reduceLeDiff, Nat.reduceLT, Nat.reduceBEq, Int.reduceEq, Int.reduceBEq, Int.reduceBNe, Int.reduceLT, Int.reduceLE, Int.reduceAdd, Int.reduceSub, Int.reduceNeg, Int.reduceToNat, Int.reducePow, Nat.reducePow, Int.reduceMul, Int.reduceDiv, ↓Y9, ix1, g1, lr, add1, nn]
    exact e2 _ K
  have e0 : ∀ (K : K), YD (.slice (some ⟨b, 0, none⟩) 2 4) (.int .i64 0) (.slice (some ⟨b, 0, none⟩) 2 4) (.int .i64 2) (.int .i64 0) H (YI [0, 3] 0 K) = K .normal [(0, .slice (some ⟨b, 0, none⟩) 2 4), (3, .int .i64 (n : Int))] H := fun K => by
    rw [WL]
    simp (disch := first | with_reducible rfl | assumption | omega | rfl | (simp only [go_sem]; first | done | omega)) only [go_sem, ↓reduceIte, reduceCtorEq, Nat.reduceEqDiff, Nat.reduceAdd, Nat.reduceSub, Nat.reduceMul, Nat.reduceDiv, Nat.reduceMod, Nat.reduceLeDiff, Nat.reduceLT, Nat.reduceBEq, Int.reduceEq, Int.reduceBEq, Int.reduceBNe, Int.reduceLT, Int.reduceLE, Int.reduceAdd, Int.reduceSub, Int.reduceNeg, Int.reduceToNat, Int.reducePow, Nat.reducePow, Int.reduceMul, Int.reduceDiv, ↓Y9, ix0, g0, lk, add0, nk]
    exact e1 K
  obtain ⟨v1, H1, m1, s1⟩ := q_Grow n H (by omega) (by omega)
  obtain ⟨v2, H2, a2, s2⟩ := s1.app kl ((hk.still s1.still).1.src (sz := 1) rfl) (by simp; omega)
  obtain ⟨v3, H3, a3, s3⟩ := s2.app rl ((hr.still s2.still).1.src (sz := 1) rfl) (by simp; omega)
  rw [List.nil_append] at s3
  obtain ⟨g2, _⟩ := c0 s1.still
  obtain ⟨_, g3⟩ := c0 s2.still
  have d2 : ∀ (K : K), YE v3 (.slice (some ⟨b, 0, none⟩) 2 4) (.int .i64 2) (.int .i64 2) H3 (YI [6] 2 K) = K .normal [(6, v3)] H3 := fun K => by
    rw [WF]
    simp (disch := first | with_reducible rfl | assumption | omega | rfl | (simp only [go_sem]; first | done | omega)) only [go_sem, ↓reduceIte, reduceCtorEq, Nat.reduceEqDiff, Nat.reduceAdd, Nat.reduceSub, Nat.reduceMul, Nat.reduceDiv, Nat.reduceMod, Nat.reduceLeDiff, Nat.reduceLT, Nat.reduceBEq, Int.reduceEq, Int.reduceBEq, Int.reduceBNe, Int.reduceLT, Int.reduceLE, Int.reduceAdd, Int.reduceSub, Int.reduceNeg, Int.reduceToNat, Int.reducePow, Nat.reducePow, Int.reduceMul, Int.reduceDiv, ↓Xa]
  have d1 : ∀ (K : K), YE v2 (.slice (some ⟨b, 0, none⟩) 2 4) (.int .i64 2) (.int .i64 1) H2 (YI [6] 2 K) = K .normal [(6, v3)] H3 := fun K => by
    rw [WF]
    simp (disch := first | with_reducible rfl | assumption | omega | rfl | (simp only [go_sem]; first | done | omega)) only [go_sem, ↓reduceIte, reduceCtorEq, Nat.reduceEqDiff, Nat.reduceAdd, Nat.reduceSub, Nat.reduceMul, Nat.reduceDiv, Nat.reduceMod, Nat.reduceLeDiff, Nat.reduceLT, Nat.reduceBEq, Int.reduceEq, Int.reduceBEq, Int.reduceBNe, Int.reduceLT, Int.reduceLE, Int.reduceAdd, Int.reduceSub, Int.reduceNeg, Int.reduceToNat, Int.reducePow, Nat.reducePow, Int.reduceMul, Int.reduceDiv, ↓Xa, ix1, g3, a3]
    exact d2 K
  have d0 : ∀ (K : K), YE v1 (.slice (some ⟨b, 0, none⟩) 2 4) (.int .i64 2) (.int .i64 0) H1 (YI [6] 2 K) = K .normal [(6, v3)] H3 := fun K => by
    rw [WF]
    simp (disch := first | with_reducible rfl | assumption | omega | rfl | (simp only [go_sem]; first | done | omega)) only [go_sem, ↓reduceIte, reduceCtorEq, Nat.reduceEqDiff, Nat.reduceAdd, Nat.reduceSub, Nat.reduceMul, Nat.reduceDiv, Nat.reduceMod, Nat.reduceLeDiff, Nat.reduceLT, Nat.reduceBEq, Int.reduceEq, Int.reduceBEq, Int.reduceBNe, Int.reduceLT, Int.reduceLE, Int.reduceAdd, Int.reduceSub, Int.reduceNeg, Int.reduceToNat, Int.reducePow, Nat.reducePow, Int.reduceMul, Int.reduceDiv, ↓Xa, ix0, g2, a2]
    exact d1 K
  have hg : gr 9 v3 = false := by
    rcases s3.own with ⟨e, _⟩ | ⟨e, _⟩ | ⟨b', o', c', xs', h, _⟩
    · have : (kl ++ rl).length = 0 := by rw [e]; rfl
      simp at this; rw [this.1] at h1; simp at h1
    · have : (kl ++ rl).length = 0 := by rw [e]; rfl
      simp at this; rw [this.1] at h1; simp at h1
    · rw [h]; rfl
  have l2 : lenS (.slice (some ⟨b, 0, none⟩) 2 4) = some (.int .i64 2) := rfl
  refine ⟨v3, H3, (Zs _ H ?_).trans (congrArg some (WK hg)), s3.own.sl, s3.still⟩
  simp (disch := first | with_reducible rfl | assumption | omega | rfl | (simp only [go_sem]; first | done | omega)) only [go_sem, ↓reduceIte, reduceCtorEq, Nat.reduceEqDiff, Nat.reduceAdd, Nat.reduceSub, Nat.reduceMul, Nat.reduceDiv, Nat.reduceMod, Nat.reduceLeDiff, Nat.reduceLT, Nat.reduceBEq, Int.reduceEq, Int.reduceBEq, Int.reduceBNe, Int.reduceLT, Int.reduceLE, Int.reduceAdd, Int.reduceSub, Int.reduceNeg, Int.reduceToNat, Int.reducePow, Nat.reducePow, Int.reduceMul, Int.reduceDiv, ↓Xx, l2, e0, ↓Ya m1, Ya m1, d0]
theorem q_Valid (n : Int) (kv rv : Value) (kl rl : List Int) (H : AHeap) (hk : KR H kv kl) (hr : KR H rv rl) : CC F.rows_Valid [tbV n kv rv] H = some (.bool (Uh n kl rl), H) := by
  obtain ⟨ak, ck, rfl⟩ := hk.1.shape
  obtain ⟨ar, cr, rfl⟩ := hr.1.shape
  obtain ⟨K1, hK1⟩ : ∃ K1, kl.length = K1 := ⟨_, rfl⟩
  obtain ⟨R1, hR1⟩ : ∃ R1, rl.length = R1 := ⟨_, rfl⟩
  have lk := hk.1.lenS
  have lr := hr.1.lenS
  unfold Uh
  rw [hK1] at hk lk ⊢
  rw [hR1] at hr lr ⊢
  obtain ⟨H1, hH1⟩ : ∃ H1, H.push (.cells [.int .i64 n, .slice ak K1 ck, .slice ar R1 cr] T.api_Table true) = H1 := ⟨_, rfl⟩
  have s1 : Yq H H1 := by rw [← hH1]; exact (Fr.refl H).push _
  have f1 : H1.f H.n = .cells [.int .i64 n, .slice ak K1 ck, .slice ar R1 cr] T.api_Table true := by rw [← hH1]; exact Yu rfl
  refine (Classical.em (1 ≤ n)).elim (fun h1 => ?_) fun h1 => ?_
  rotate_left
  · rw [decide_eq_false h1, Bool.false_and]
    apply Yj _ (V0 _ H) rfl
    rotate_left 2
    · simp (disch := first | with_reducible rfl | assumption | omega | rfl | (simp only [go_sem]; first | done | omega)) only [go_sem, ↓reduceIte, reduceCtorEq, Nat.reduceEqDiff, Nat.reduceAdd, Nat.reduceSub, Nat.reduceMul, Nat.reduceDiv, Nat.reduceMod, Nat.reduceLeDiff, Nat.reduceLT, Nat.reduceBEq, Int.reduceEq, Int.reduceBEq, Int.reduceBNe, Int.reduceLT, Int.reduceLE, Int.reduceAdd, Int.reduceSub, Int.reduceNeg, Int.reduceToNat, Int.reducePow, Nat.reducePow, Int.reduceMul, Int.reduceDiv, ↓X5, hH1, f1, h1]
      rfl
    · exact s1
  rw [decide_eq_true h1, Bool.true_and]
  refine (Classical.em (n ≤ 255)).elim (fun h2 => ?_) fun h2 => ?_
  rotate_left
  · rw [decide_eq_false h2, Bool.false_and]
    apply Yj _ (V0 _ H) rfl
    rotate_left 2
    · simp (disch := first | with_reducible rfl | assumption | omega | rfl | (simp only [go_sem]; first | done | omega)) only [go_sem, ↓reduceIte, reduceCtorEq, Nat.reduceEqDiff, Nat.reduceAdd, Nat.reduceSub, Nat.reduceMul, Nat.reduceDiv, Nat.reduceMod, Nat.reduceLeDiff, Nat.reduceLT, Nat.reduceBEq, Int.reduceEq, Int.reduceBEq, Int.reduceBNe, Int.reduceLT, Int.reduceLE, Int.reduceAdd, Int.reduceSub, Int.reduceNeg, Int.reduceToNat, Int.reducePow, Nat.reducePow, Int.reduceMul, Int.reduceDiv, ↓X5, hH1, f1, h1, h2]
      rfl
    · exact s1
  rw [decide_eq_true h2, Bool.true_and]
  refine (Classical.em (1 ≤ K1)).elim (fun h3 => ?_) fun h3 => ?_
  rotate_left
  · have h3' : ¬ 1 ≤ (K1 : Int) := by omega
    rw [decide_eq_false h3, Bool.false_and]
    apply Yj _ (V0 _ H) rfl
    rotate_left 2
    · simp (disch := first | with_reducible rfl | assumption | omega | rfl | (simp only [go_sem]; first | done | omega)) only [go_sem, ↓reduceIte, reduceCtorEq, Nat.reduceEqDiff, Nat.reduceAdd, Nat.reduceSub, Nat.reduceMul, Nat.reduceDiv, Nat.reduceMod, Nat.reduceLeDiff, Nat.reduceLT, Nat.reduceBEq, Int.reduceEq, Int.reduceBEq, Int.reduceBNe, Int.reduceLT, Int.reduceLE, Int.reduceAdd, Int.reduceSub, Int.reduceNeg, Int.reduceToNat, Int.reducePow, Nat.reducePow, Int.reduceMul, Int.reduceDiv, ↓X5, hH1, f1, h1, h2, h3']
      rfl
    · exact s1
  have h3' : 1 ≤ (K1 : Int) := by omega
  rw [decide_eq_true h3, Bool.true_and]
  refine (Classical.em (K1 ≤ 8)).elim (fun h4 => ?_) fun h4 => ?_
  rotate_left
  · have h4' : ¬ (K1 : Int) ≤ 8 := by omega
    rw [decide_eq_false h4, Bool.false_and]
    apply Yj _ (V0 _ H) rfl
    rotate_left 2
    · simp (disch := first | with_reducible rfl | assumption | omega | rfl | (simp only [go_sem]; first | done | omega)) only [go_sem, ↓reduceIte, reduceCtorEq, Nat.reduceEqDiff, Nat.reduceAdd, Nat.reduceSub, Nat.reduceMul, Nat.reduceDiv, Nat.reduceMod, Nat.reduceLeDiff, Nat.reduceLT, Nat.reduceBEq, Int.reduceEq, Int.reduceBEq, Int.reduceBNe, Int.reduceLT, Int.reduceLE, Int.reduceAdd, Int.reduceSub, Int.reduceNeg, Int.reduceToNat, Int.reducePow, Nat.reducePow, Int.reduceMul, Int.reduceDiv, ↓X5, hH1, f1, h1, h2, h3', h4']
      rfl
    · exact s1
  have h4' : (K1 : Int) ≤ 8 := by omega
  rw [decide_eq_true h4, Bool.true_and]
  refine (Classical.em (R1 ≤ 8)).elim (fun h5 => ?_) fun h5 => ?_
  rotate_left
  · have h5' : ¬ (R1 : Int) ≤ 8 := by omega
    rw [decide_eq_false h5, Bool.false_and]
    apply Yj _ (V0 _ H) rfl
    rotate_left 2
    · simp (disch := first | with_reducible rfl | assumption | omega | rfl | (simp only [go_sem]; first | done | omega)) only [go_sem, ↓reduceIte, reduceCtorEq, Nat.reduceEqDiff, Nat.reduceAdd, Nat.reduceSub, Nat.reduceMul, Nat.reduceDiv, Nat.reduceMod, Nat.reduceLeDiff, Nat.reduceLT, Nat.reduceBEq, Int.reduceEq, Int.reduceBEq, Int.reduceBNe, Int.reduceLT, Int.reduceLE, Int.reduceAdd, Int.reduceSub, Int.reduceNeg, Int.reduceToNat, Int.reducePow, Nat.reducePow, Int.reduceMul, Int.reduceDiv, ↓X5, hH1, f1, h1, h2, h3', h4', h5']
      rfl
    · exact s1
  have h5' : (R1 : Int) ≤ 8 := by omega
  rw [decide_eq_true h5, Bool.true_and]
  obtain ⟨H2, hH2⟩ : ∃ H2, H1.push (.cells [.slice ak K1 ck, .slice ar R1 cr] T.sl_api_CellKind true) = H2 := ⟨_, rfl⟩
  have s2 : Yq H1 H2 := by rw [← hH2]; exact (Fr.refl H1).push _
  have f2 : H2.f H1.n = .cells [.slice ak K1 ck, .slice ar R1 cr] T.sl_api_CellKind true := by rw [← hH2]; exact Yu rfl
  have n2 : H1.n < H2.n := by rw [← hH2]; exact Nat.lt_succ_self _
  obtain ⟨v3, H3, m3, r3, s3⟩ := q_Concat H1.n (.slice ak K1 ck) (.slice ar R1 cr) kl rl H2 n2 f2 ((hk.still s1).still s2) ((hr.still s1).still s2) (by omega) (by omega) (by omega)
  have m4 := q_Rcontains (kl ++ rl) v3 H3 r3 (by simp; omega)
  rw [show (kl ++ rl).all Vi = !(!(kl ++ rl).all Vi) by simp]
  apply Yj _ (V0 _ H) rfl
  rotate_left 2
  · simp (disch := first | with_reducible rfl | assumption | omega | rfl | (simp only [go_sem]; first | done | omega)) only [go_sem, ↓reduceIte, reduceCtorEq, Nat.reduceEqDiff, Nat.reduceAdd, Nat.reduceSub, Nat.reduceMul, Nat.reduceDiv, Nat.reduceMod, Nat.reduceLeDiff, Nat.reduceLT, Nat.reduceBEq, Int.reduceEq, Int.reduceBEq, Int.reduceBNe, Int.reduceLT, Int.reduceLE, Int.reduceAdd, Int.reduceSub, Int.reduceNeg, Int.reduceToNat, Int.reducePow, Nat.reducePow, Int.reduceMul, Int.reduceDiv, ↓X5, hH1, f1, h1, h2, h3', h4', h5', hH2, ↓Ya m3, Ya m3, ↓Ya m4, Ya m4]
    rfl
  · exact (s1.trans s2).trans s3
end Go.Proofs.YtmiinbhnfojnbaaDoor

set_option maxRecDepth 10000
namespace Go.Proofs.YtmiinbhnfojnbaaDoor
open Go Eng
abbrev BR (H : AHeap) (v : Value) (l : List UInt8) : Prop := RdS EB T.uint8 H v l
theorem BR.str {H : AHeap} {v : Value} {l : List UInt8} (r : BR H v l) : YP Tryd.prog T.sl_uint8 T.string v H = some (.string (mk l), H) :=
  conv_bs (P := Tryd.prog) (t := T.sl_uint8) (s := T.string) (e := T.uint8) Tryd.underlying104 Tryd.underlying5 Tryd.underlying9 r.1
theorem newB {H : AHeap} {l : List UInt8} {b : Nat} (hb : b < H.n) (hf : H.f b = .cells (EB.cells l) T.uint8 true) : RdS EB T.uint8 H (.slice (some ⟨b, 0, none⟩) l.length (2 * l.length)) l := by
  refine ⟨?_, .inr ⟨b, 0, _, _, rfl, by omega, .inl (by omega), hb⟩⟩
  by_cases h0 : l = []
  · subst h0; exact .inr (.inl ⟨rfl, _, _, rfl, rfl⟩)
  · refine .inr (.inr ⟨b, 0, _, rfl, h0, hb, ?_⟩)
    rw [hf, cutB_c (by simp), List.drop_zero, List.take_of_length_le (by simp)]
def by8 (n : Nat) : UInt8 := UInt8.ofNat n
theorem by8_cell (n : Nat) : Xc (by8 n) = .int .u8 ((n : Int) % 256) := by
  unfold Xc by8
  rw [UInt8.toNat_ofNat']
  rfl
theorem cells_one (a : Nat) : EB.cells [by8 a] = [.int .u8 ((a : Int) % 256)] := by
  rw [V8]; simp only [List.map_cons, List.map_nil, by8_cell]
structure Since (H0 H : AHeap) (v : Value) (l : List UInt8) : Prop where
  still : Yq H0 H
  own : Own EB H T.uint8 v l
  new : ∀ b, Yk v = some b → H0.n ≤ b
theorem Since.nil {H : AHeap} : Since H H (.slice none 0 0) [] := ⟨Fr.refl H, .inl ⟨rfl, rfl⟩, fun b h => by cases h⟩
theorem Since.app {H0 H : AHeap} {v : Value} {l : List UInt8} (r : Since H0 H v l) (m : List UInt8) {src : Option (Nat × List Value)} (hsrc : src = some (m.length, EB.cells m)) (hb : l.length + m.length ≤ 1000000000000) :
    ∃ v' H', Eng.app T.uint8 1 1 v src H = some (v', H') ∧ Since H0 H' v' (l ++ m) := by
  obtain ⟨v', H', e1, e2, e3, e4⟩ := r.own.appA m (sz := 1) (bytes := 1) rfl (by omega) (by omega) hsrc
  refine ⟨v', H', e1, r.still.then e3 fun b hb h => ?_, e2, fun b h => ?_⟩
  · unfold WP at h; have := r.new b h; omega
  · rcases e4 with h4 | h4
    · rw [h4] at h; exact r.new b h
    · rw [h4] at h; cases h; exact r.still.n
theorem Since.to {H0 H H' : AHeap} {v : Value} {l : List UInt8} (r : Since H0 H v l) (s : Yq H H') : Since H0 H' v l := ⟨r.still.trans s, r.own.still s, r.new⟩
theorem Since.lit {H0 H : AHeap} {v : Value} {l : List UInt8} (r : Since H0 H v l) (m : List UInt8) {H1 : AHeap} (h1 : H.push (.cells (EB.cells m) T.uint8 true) = H1) (hb : l.length + m.length ≤ 1000000000000) :
    ∃ v' H', Eng.app T.uint8 1 1 v (Vn 1 (.slice (some ⟨H.n, 0, none⟩) m.length (2 * m.length)) H1) H1 = some (v', H') ∧ Since H0 H' v' (l ++ m) := by
  have s1 : Yq H H1 := by rw [← h1]; exact (Fr.refl H).push _
  have n1 : H1.n = H.n + 1 := by rw [← h1]; rfl
  have f1 : H1.f H.n = .cells (EB.cells m) T.uint8 true := by rw [← h1]; exact Yu rfl
  have rm : BR H1 (.slice (some ⟨H.n, 0, none⟩) m.length (2 * m.length)) m := newB (by omega) f1
  exact (r.to s1).app m (rm.1.src (sz := 1) rfl) hb
theorem srcT_b (s : ByteArray) : srcT (.string s) = some ((bl s).length, EB.cells (bl s)) := by
  show some ((bl s).length, (bl s).map Xc) = _
  rw [V8]
def dg (n : Nat) : List UInt8 := if h : n = 0 then [] else dg (n / 256) ++ [by8 n]
  decreasing_by omega
theorem Zg : dg 0 = [] := by rw [dg]; rfl
theorem dg_pos {n : Nat} (h : n ≠ 0) : dg n = dg (n / 256) ++ [by8 n] := by rw [dg]; simp [h]
theorem VA : ∀ (k n : Nat), n < 256 ^ k → (dg n).length ≤ k
  | 0, n, h => by
    have h : n < 1 := h
    have : n = 0 := by omega
    subst this; rw [Zg]; simp
  | k + 1, n, h => by
    by_cases h0 : n = 0
    · subst h0; rw [Zg]; simp
    · rw [dg_pos h0]
      have := VA k (n / 256) (by rw [Nat.pow_succ] at h; omega)
      simp; omega
def esc : List UInt8 → List UInt8
  | [] => []
  | c :: l => if c = 0 then 0 :: 255 :: esc l else c :: esc l
theorem index_zero (l : List UInt8) : Lib.index (0 :: l) [0] = 0 := by simp [Lib.index]
theorem Zm {c : UInt8} (h : c ≠ 0) (l : List UInt8) : Lib.index (c :: l) [0] = if Lib.index l [0] = -1 then -1 else Lib.index l [0] + 1 := by
  have : ([0] : List UInt8).isPrefixOf (c :: l) = false := by simp [List.isPrefixOf]; exact fun e => h e.symm
  rw [Lib.index, this]
  by_cases h1 : Lib.index l [0] = -1
  · simp [h1]
  · simp [h1]
theorem count_other {c : UInt8} (h : c ≠ 0) (l : List UInt8) : Lib.count (c :: l) [0] = Lib.count l [0] := by
  by_cases h1 : Lib.index l [0] = -1
  · rw [Lib.count_miss h1, Lib.count_miss (by rw [Zm h, if_pos h1])]
  · have hg := Lib.index_ge l [0]
    obtain ⟨i, hi⟩ : ∃ i : Nat, Lib.index l [0] = i := ⟨(Lib.index l [0]).toNat, by omega⟩
    rw [Lib.count_hit (i := i) (by simp) hi, Lib.count_hit (i := i + 1) (by simp) (by rw [Zm h, if_neg h1, hi]; omega)]
    rfl
theorem count_zero (l : List UInt8) : Lib.count (0 :: l) [0] = 1 + Lib.count l [0] := by
  rw [Lib.count_hit (i := 0) (by simp) (by rw [index_zero]; rfl)]
  rfl
theorem replaceK_other {c : UInt8} (h : c ≠ 0) (w : List UInt8) : ∀ (k : Nat) (l : List UInt8), Lib.replaceK [0] w k (c :: l) = c :: Lib.replaceK [0] w k l
  | 0, _ => rfl
  | k + 1, l => by
    by_cases h1 : Lib.index l [0] = -1
    · have h2 : Lib.index (c :: l) [0] = -1 := by rw [Zm h, if_pos h1]
      simp [Lib.replaceK, h1, h2]
    · have hg := Lib.index_ge l [0]
      obtain ⟨i, hi⟩ : ∃ i : Nat, Lib.index l [0] = i := ⟨(Lib.index l [0]).toNat, by omega⟩
      rw [Lib.replaceK_hit _ _ _ _ i hi, Lib.replaceK_hit _ _ _ _ (i + 1) (by rw [Zm h, if_neg h1, hi]; omega)]
      rfl
theorem repl_esc : ∀ (l : List UInt8), Lib.replaceK [0] [0, 255] (Lib.count l [0]) l = esc l
  | [] => by simp [Lib.count, Lib.countFrom, Lib.index, Lib.replaceK, esc]
  | c :: l => by
    by_cases h : c = 0
    · subst h
      rw [count_zero, Nat.add_comm, Lib.replaceK_hit _ _ _ _ 0 (by rw [index_zero]; rfl)]
      show [] ++ [0, 255] ++ Lib.replaceK [0] [0, 255] (Lib.count l [0]) l = _
      rw [repl_esc l]
      rfl
    · rw [count_other h, replaceK_other h, repl_esc l]
      simp [esc, h]
theorem replaceAll_esc (l : List UInt8) : Lib.replaceAll l [0] [0, 255] = esc l := by
  unfold Lib.replaceAll Lib.replace Lib.replaceNum
  have h : ¬ (([0] : List UInt8) == [0, 255]) = true := by decide
  rw [if_neg h, if_pos (.inl (by decide))]
  exact repl_esc l
theorem q_ReplaceAll (s : ByteArray) (H : AHeap) (hs : (bl s).length ≤ 1000000) : CC F.strings_ReplaceAll [.string s, .string (mk [0]), .string (mk [0, 255])] H = some (.string (mk (esc (bl s))), H) := by
  refine D_prim (show prims1 F.strings_ReplaceAll = some replP by kernel_rfl) ?_
  have h1 : s.size < 4294967281 ∧ 1 ≤ (mk [0]).size ∧ (mk [0, 255]).size ≤ 100 := by
    have e : s.size = (bl s).length := by cases s; rfl
    exact ⟨by omega, by decide, by decide⟩
  show (if s.size < 4294967281 ∧ 1 ≤ (mk [0]).size ∧ (mk [0, 255]).size ≤ 100 then some (Value.string ⟨(Lib.replaceAll s.data.toList (mk [0]).data.toList (mk [0, 255]).data.toList).toArray⟩, H) else none) = _
  rw [if_pos h1]
  have : Lib.replaceAll s.data.toList (mk [0]).data.toList (mk [0, 255]).data.toList = esc (bl s) := replaceAll_esc _
  rw [this]
  rfl
end Go.Proofs.YtmiinbhnfojnbaaDoor

set_option maxRecDepth 10000
namespace Go.Proofs.YtmiinbhnfojnbaaDoor
open Go Eng
abbrev OkH (H : AHeap) : Prop := ∀ b, H.ver b < H.clk
theorem map_set' {α β : Type} (f : α → β) : ∀ (l : List α) (i : Nat) (a : α), (l.set i a).map f = (l.map f).set i (f a)
  | [], _, _ => rfl
  | _ :: _, 0, _ => rfl
  | x :: l, i + 1, a => by simp [map_set' f l i a]
theorem Own.set1 {α : Type} {E : Enc α} {H : AHeap} {e : TypeId} {v : Value} {l : List α} (f : α → Value) (hw : E.w = 1) (hcells : ∀ l : List α, E.cells l = l.map f) (ho : ∀ a, Eng.one (f a) = true) (r : Own E H e v l) {i : Nat} (hi : i < l.length) (x : α) :
    ∃ b o k, ixS 1 v (.int .i64 (i : Int)) = some (.pointer (some ⟨b, o, none⟩)) ∧ Yk v = some b ∧ b < H.n ∧ X4 (H.f b) o = some (f l[i]) ∧ wr1 (H.f b) o (f x) = some k ∧ Own E (H.set b k) e v (l.set i x) ∧ Fr (WP v) H (H.set b k) := by
  rcases r with ⟨h, _⟩ | ⟨h, _⟩ | ⟨b, o, c, xs, rfl, hl, hb, hf, hoc, hx⟩
  · subst h; simp at hi
  · subst h; simp at hi
  · rw [hw, Nat.mul_one] at hoc
    rw [hw, Nat.mul_one, hcells] at hx
    have hlen : o + i < xs.length := by omega
    have hcell : xs[o + i]? = some (f l[i]) := by
      have : ((xs.drop o).take l.length)[i]? = (l.map f)[i]? := by rw [hx]
      rw [List.getElem?_take_of_lt hi, List.getElem?_drop, List.getElem?_map, List.getElem?_eq_getElem hi] at this
      exact this
    have hix := ixS_nat (b := b) (o := o) (sz := 1) (code := 2 * c + 1) (q := .i64) hi
    rw [Nat.mul_one] at hix
    refine ⟨b, o + i, .cells (xs.set (o + i) (f x)) e true, hix, rfl, hb, by rw [hf]; exact hcell, by rw [hf]; exact wr1_c hlen (ho x), ?_, Fr.set (Fr.refl H) _ _ fun _ => rfl⟩
    refine .inr (.inr ⟨b, o, c, xs.set (o + i) (f x), by simp, by simpa using hl, hb, YC, by simp [hw]; exact hoc, ?_⟩)
    rw [hw, Nat.mul_one, hcells, map_set', List.length_set, ← hx, List.drop_set, if_neg (by omega), List.take_set]
    congr 1
    omega
theorem Since.set {H0 H : AHeap} {v : Value} {l : List UInt8} (r : Since H0 H v l) {i : Nat} (hi : i < l.length) (x : UInt8) :
    ∃ b o k, ixS 1 v (.int .i64 (i : Int)) = some (.pointer (some ⟨b, o, none⟩)) ∧ X4 (H.f b) o = some (.int .u8 (l[i].toNat : Int)) ∧ wr1 (H.f b) o (.int .u8 (x.toNat : Int)) = some k ∧ Since H0 (H.set b k) v (l.set i x) := by
  obtain ⟨b, o, k, e1, e2, e3, e4, e5, e6, e7⟩ := Own.set1 Xc rfl V8 (fun _ => rfl) r.own hi x
  exact ⟨b, o, k, e1, e4, e5, r.still.then e7 fun c hc h => by unfold WP at h; have := r.new c h; omega, e6, r.new⟩
theorem l_Rev (v : Value) (H0 : AHeap) : ∀ (d : Nat) (mid pre suf : List UInt8) (H : AHeap) (i j : Int), mid.length = d → Since H0 H v (pre ++ mid ++ suf) → i = pre.length → j = (pre.length : Int) + mid.length - 1 → (pre ++ mid ++ suf).length ≤ 1000000 →
    ∃ H', Since H0 H' v (pre ++ mid.reverse ++ suf) ∧ H'.n = H.n ∧ Fr (WP v) H H' ∧ ∀ K : K, Y3 v (.int .i64 i) (.int .i64 j) H (YI [] 0 K) = K .normal [] H' := by
  intro d
  induction d using Nat.strongRecOn with
  | ind d ihd =>
    intro mid pre suf H i j hd so hi hj hlen
    cases mid with
    | nil =>
      have hlt : ¬ i < j := by simp at hj; omega
      refine ⟨H, so, rfl, Fr.refl H, fun K => ?_⟩
      rw [W3]
      simp (disch := first | with_reducible rfl | assumption | omega | rfl | (simp only [go_sem]; first | done | omega)) only [go_sem, ↓reduceIte, reduceCtorEq, Nat.reduceEqDiff, Nat.reduceAdd, Nat.reduceSub, Nat.reduceMul, Nat.reduceDiv, Nat.reduceMod, Nat.reduceLeDiff, Nat.reduceLT, Nat.reduceBEq, Int.reduceEq, Int.reduceBEq, Int.reduceBNe, Int.reduceLT, Int.reduceLE, Int.reduceAdd, Int.reduceSub, Int.reduceNeg, Int.reduceToNat, Int.reducePow, Nat.reducePow, Int.reduceMul, Int.reduceDiv, ↓Xw, hlt]
    | cons a t =>
      by_cases ht : t = []
      · subst ht
        have hlt : ¬ i < j := by simp at hj; omega
        refine ⟨H, so, rfl, Fr.refl H, fun K => ?_⟩
        rw [W3]
        simp (disch := first | with_reducible rfl | assumption | omega | rfl | (simp only [go_sem]; first | done | omega)) only [go_sem, ↓reduceIte, reduceCtorEq, Nat.reduceEqDiff, Nat.reduceAdd, Nat.reduceSub, Nat.reduceMul, Nat.reduceDiv, Nat.reduceMod, Nat.reduceLeDiff, Nat.reduceLT, Nat.reduceBEq, Int.reduceEq, Int.reduceBEq, Int.reduceBNe, Int.reduceLT, Int.reduceLE, Int.reduceAdd, Int.reduceSub, Int.reduceNeg, Int.reduceToNat, Int.reducePow, Nat.reducePow, Int.reduceMul, Int.reduceDiv, ↓Xw, hlt]
      · obtain ⟨m, b, hmb⟩ : ∃ m b, t = m ++ [b] := ⟨t.dropLast, t.getLast ht, (List.dropLast_concat_getLast ht).symm⟩
        subst hmb
        obtain ⟨L, hL⟩ : ∃ L, pre ++ a :: (m ++ b :: suf) = L := ⟨_, rfl⟩
        have e0 : pre ++ a :: (m ++ [b]) ++ suf = L := by rw [← hL]; simp
        rw [e0] at so hlen
        have hLl : L.length = pre.length + m.length + 2 + suf.length := by rw [← hL]; simp; omega
        have hlt : i < j := by simp at hj; omega
        have hjn : j = ((pre.length + m.length + 1 : Nat) : Int) := by simp at hj; omega
        have gi : L[pre.length]'(by omega) = a := by simp [← hL]
        have gj : L[pre.length + m.length + 1]'(by omega) = b := by
          simp only [← hL]
          rw [List.getElem_append_right (by omega)]
          simp [show pre.length + m.length + 1 - pre.length = m.length + 1 by omega]
        obtain ⟨bi, oi, ki, ixi, ci, wi, so1⟩ := so.set (i := pre.length) (by omega) b
        obtain ⟨H1, hH1⟩ : ∃ H1, H.set bi ki = H1 := ⟨_, rfl⟩
        rw [hH1] at so1
        obtain ⟨bj0, oj0, _, ixj0, cj0, _, _⟩ := so.set (i := pre.length + m.length + 1) (by omega) a
        obtain ⟨bj, oj, kj, ixj, _, wj, so2⟩ := so1.set (i := pre.length + m.length + 1) (by simp; omega) a
        rw [ixj0] at ixj
        cases ixj
        obtain ⟨H2, hH2⟩ : ∃ H2, H1.set bj0 kj = H2 := ⟨_, rfl⟩
        rw [hH2] at so2
        rw [gi] at ci
        rw [gj] at cj0
        have e1 : (L.set pre.length b).set (pre.length + m.length + 1) a = pre ++ [b] ++ m ++ (a :: suf) := by
          rw [← hL, List.set_append_right _ _ (Nat.le_refl _), Nat.sub_self, List.set_cons_zero, List.set_append_right _ _ (by omega), show pre.length + m.length + 1 - pre.length = m.length + 1 by omega, List.set_cons_succ, List.set_append_right _ _ (Nat.le_refl _), Nat.sub_self, List.set_cons_zero]
          simp
        rw [e1] at so2
        obtain ⟨H', so3, n3, f3, e3⟩ := ihd m.length (by rw [← hd]; simp; omega) m (pre ++ [b]) (a :: suf) H2 (i + 1) (j - 1) rfl so2 (by simp; omega) (by simp; omega) (by simp; omega)
        have n1 : H1.n = H.n := by rw [← hH1]; rfl
        have n2 : H2.n = H1.n := by rw [← hH2]; rfl
        have hblk : ∀ {iv : Int} {x y : Nat}, ixS 1 v (.int .i64 iv) = some (.pointer (some ⟨x, y, none⟩)) → Yk v = some x := fun {iv x y} h => by
          obtain ⟨aa, cc, e⟩ := so.own.rd.shape
          rw [e] at h ⊢
          cases aa with
          | none => simp [ixS] at h
          | some ad =>
            obtain ⟨p, q, r⟩ := ad
            cases r with
            | some z => simp [ixS] at h
            | none =>
              unfold ixS at h
              simp only at h
              split at h
              · injection h with h; injection h with h; injection h with h; injection h with h1 h2 h3; subst h1; rfl
              · cases h
        have fr1 : Fr (WP v) H H1 := by rw [← hH1]; exact Fr.set (Fr.refl H) _ _ fun _ => hblk ixi
        have fr2 : Fr (WP v) H1 H2 := by rw [← hH2]; exact Fr.set (Fr.refl H1) _ _ fun _ => hblk ixj0
        refine ⟨H', ?_, by omega, (fr1.trans fr2).trans f3, fun K => ?_⟩
        · have : pre ++ (a :: (m ++ [b])).reverse ++ suf = pre ++ [b] ++ m.reverse ++ (a :: suf) := by simp
          rw [this]; exact so3
        · have hck : okV (some true) none H H1 H H = true := okV_none (.inl (Nat.le_refl _))
          have hai : ∀ ox oy, Yf Tryd.prog .add T.int ox oy (.int .i64 i) (.int .i64 1) = some (.int .i64 (i + 1)) := fun ox oy => add_i64 (by omega)
          have haj : ∀ ox oy, Yf Tryd.prog .sub T.int ox oy (.int .i64 j) (.int .i64 1) = some (.int .i64 (j - 1)) := fun ox oy => sub_i64 (by omega)
          have ixi' : ixS 1 v (.int .i64 i) = some (.pointer (some ⟨bi, oi, none⟩)) := by rw [hi]; exact ixi
          have ixj' : ixS 1 v (.int .i64 j) = some (.pointer (some ⟨bj0, oj0, none⟩)) := by rw [hjn]; exact ixj0
          have := e3 K
          rw [W3]
          simp (disch := first | with_reducible rfl | assumption | omega | rfl | (simp only [go_sem]; first | done | omega)) only [go_sem, ↓reduceIte, reduceCtorEq, Nat.reduceEqDiff, Nat.reduceAdd, Nat.reduceSub, Nat.reduceMul, Nat.reduceDiv, Nat.reduceMod, Nat.reduceLeDiff, Nat.reduceLT, Nat.reduceBEq, Int.reduceEq, Int.reduceBEq, Int.reduceBNe, Int.reduceLT, Int.reduceLE, Int.reduceAdd, Int.reduceSub, Int.reduceNeg, Int.reduceToNat, Int.reducePow, Nat.reducePow, Int.reduceMul, Int.reduceDiv, ↓Xw, hlt, ixj', cj0, ixi', ci, wi, hH1, wj, hH2, hck, hai, haj]
          exact this
theorem q_Reverse (v : Value) (l : List UInt8) (H0 H : AHeap) (ok : OkH H) (so : Since H0 H v l) (hl : l.length ≤ 1000) : ∃ H', CC F.slices_Reverse_byte [v] H = some (.tuple #[], H') ∧ Since H0 H' v l.reverse := by
  have hlen := so.own.rd.lenS
  obtain ⟨H', so', n', f', e'⟩ := l_Rev v H0 l.length l [] [] H 0 ((l.length : Int) - 1) rfl (by simpa using so) rfl (by simp) (by simp; omega)
  have so' : Since H0 H' v l.reverse := by simpa using so'
  have key : Xv Ye Ym Yg Tryd.prog CC Y3 v H (Yi Tryd.prog []) = some (.tuple #[], H') := by
    simp (disch := first | with_reducible rfl | assumption | omega | rfl | (simp only [go_sem]; first | done | omega)) only [go_sem, ↓reduceIte, reduceCtorEq, Nat.reduceEqDiff, Nat.reduceAdd, Nat.reduceSub, Nat.reduceMul, Nat.reduceDiv, Nat.reduceMod, Nat.reduceLeDiff, Nat.reduceLT, Nat.reduceBEq, Int.reduceEq, Int.reduceBEq, Int.reduceBNe, Int.reduceLT, Int.reduceLE, Int.reduceAdd, Int.reduceSub, Int.reduceNeg, Int.reduceToNat, Int.reducePow, Nat.reducePow, Int.reduceMul, Int.reduceDiv, ↓Xv, hlen, e']
    try rfl
  have hd := d_slices_Reverse_byte v H key
  unfold tidy at hd
  split at hd
  · rename_i hg
    simp only [Bool.and_eq_true] at hg
    refine ⟨H, hd, so.still, ?_, so.new⟩
    have hsame : ∀ c, c < H.n → H'.f c = H.f c := by
      intro c hc
      rcases f'.old c hc with h | ⟨h, _⟩
      · exact h.2
      · have := List.all_eq_true.1 hg.2 c (by simpa using hc)
        have := ok c
        simp at *
        omega
    rcases so'.own with h | ⟨h1, a, h2, h3, h4⟩ | ⟨b, o, c, xs, h1, h2, h3, h4, h5⟩
    · exact .inl h
    · exact .inr (.inl ⟨h1, a, h2, h3, by omega⟩)
    · exact .inr (.inr ⟨b, o, c, xs, h1, h2, by omega, by rw [← hsame b (by omega)]; exact h4, h5⟩)
  · exact ⟨H', hd, so'⟩
theorem l_digits (H0 : AHeap) : ∀ (k n : Nat) (H : AHeap) (v : Value) (acc : List UInt8), n < 256 ^ k → k ≤ 8 → acc.length + k ≤ 1000 → Since H0 H v acc →
    ∃ v' H', Since H0 H' v' (acc ++ (dg n).reverse) ∧ ∀ K : K, Wm (.int .u64 (n : Int)) v H (YI [3] 0 K) = K .normal [(3, v')] H'
  | 0, n, H, v, acc, h, hk, hc, so => by
    have h : n < 1 := h
    have : n = 0 := by omega
    subst this
    refine ⟨v, H, by rw [Zg]; simpa using so, fun K => ?_⟩
    rw [Qs]
    simp (disch := first | with_reducible rfl | assumption | omega | rfl | (simp only [go_sem]; first | done | omega)) only [go_sem, ↓reduceIte, reduceCtorEq, Nat.reduceEqDiff, Nat.reduceAdd, Nat.reduceSub, Nat.reduceMul, Nat.reduceDiv, Nat.reduceMod, Nat.reduceLeDiff, Nat.reduceLT, Nat.reduceBEq, Int.reduceEq, Int.reduceBEq, Int.reduceBNe, Int.reduceLT, Int.reduceLE, Int.reduceAdd, Int.reduceSub, Int.reduceNeg, Int.reduceToNat, Int.reducePow, Nat.reducePow, Int.reduceMul, Int.reduceDiv, ↓W6]
  | k + 1, n, H, v, acc, h, hk, hc, so => by
    by_cases h0 : n = 0
    · subst h0
      refine ⟨v, H, by rw [Zg]; simpa using so, fun K => ?_⟩
      rw [Qs]
      simp (disch := first | with_reducible rfl | assumption | omega | rfl | (simp only [go_sem]; first | done | omega)) only [go_sem, ↓reduceIte, reduceCtorEq, Nat.reduceEqDiff, Nat.reduceAdd, Nat.reduceSub, Nat.reduceMul, Nat.reduceDiv, Nat.reduceMod, Nat.reduceLeDiff, Nat.reduceLT, Nat.reduceBEq, Int.reduceEq, Int.reduceBEq, Int.reduceBNe, Int.reduceLT, Int.reduceLE, Int.reduceAdd, Int.reduceSub, Int.reduceNeg, Int.reduceToNat, Int.reducePow, Nat.reducePow, Int.reduceMul, Int.reduceDiv, ↓W6]
    · have hn : n / 256 < 256 ^ k := by rw [Nat.pow_succ] at h; omega
      have h0' : 0 < (n : Int) := by omega
      obtain ⟨H1, hH1⟩ : ∃ H1, H.push (.cells [.int .u8 ((n : Int) % 256)] T.uint8 true) = H1 := ⟨_, rfl⟩
      have hH1' : H.push (.cells (EB.cells [by8 n]) T.uint8 true) = H1 := by rw [cells_one]; exact hH1
      obtain ⟨v1, H2, a1, so1⟩ := so.lit [by8 n] hH1' (by simp; omega)
      have a1 : Eng.app T.uint8 1 1 v (Vn 1 (.slice (some ⟨H.n, 0, none⟩) 1 2) H1) H1 = some (v1, H2) := a1
      obtain ⟨v2, H3, so2, e2⟩ := l_digits H0 k (n / 256) H2 v1 (acc ++ [by8 n]) hn (by omega) (by simp; omega) so1
      have sh : ∀ ox oy, Yf Tryd.prog .shr T.uint64 ox oy (.int .u64 (n : Int)) (.int .u64 8) = some (.int .u64 ((n / 256 : Nat) : Int)) := fun ox oy => shrP (by decide)
      have cA : ∀ H : AHeap, YP Tryd.prog T.uint64 T.uint8 (.int .u64 (n : Int)) H = some (.int .u8 ((n : Int) % 256), H) := fun H => by rw [x_uint64_uint8, wrapU8]
      refine ⟨v2, H3, ?_, fun K => ?_⟩
      · rw [dg_pos h0, List.reverse_append]
        simpa using so2
      · have := e2 K
        rw [Qs]
        simp (disch := first | with_reducible rfl | assumption | omega | rfl | (simp only [go_sem]; first | done | omega)) only [go_sem, ↓reduceIte, reduceCtorEq, Nat.reduceEqDiff, Nat.reduceAdd, Nat.reduceSub, Nat.reduceMul, Nat.reduceDiv, Nat.reduceMod, Nat.reduceLeDiff, Nat.reduceLT, Nat.reduceBEq, Int.reduceEq, Int.reduceBEq, Int.reduceBNe, Int.reduceLT, Int.reduceLE, Int.reduceAdd, Int.reduceSub, Int.reduceNeg, Int.reduceToNat, Int.reducePow, Nat.reducePow, Int.reduceMul, Int.reduceDiv, ↓W6, h0', cA, hH1, a1, sh]
        exact this
end Go.Proofs.YtmiinbhnfojnbaaDoor

set_option maxRecDepth 10000
namespace Go.Proofs.YtmiinbhnfojnbaaDoor
open Go Eng
theorem q_rdigits (k n : Nat) (H : AHeap) (ok : OkH H) (hn : n < 256 ^ k) (hk : k ≤ 8) : ∃ v' H', CC F.rows_digits [.int .u64 (n : Int)] H = some (v', H') ∧ Since H H' v' (dg n) := by
  obtain ⟨v1, H1, s1, e1⟩ := l_digits H k n H (.slice none 0 0) [] hn hk (by simp; omega) Since.nil
  rw [List.nil_append] at s1
  have hl := VA k n hn
  obtain ⟨H2, m2, s2⟩ := q_Reverse v1 (dg n).reverse H H1 (s1.still.ok ok) s1 (by simp; omega)
  rw [List.reverse_reverse] at s2
  have key : Vx Ye Ym Yg Tryd.prog CC Wm (.int .u64 (n : Int)) H (Yi Tryd.prog [.tmp 2]) = some (v1, H2) := by
    simp (disch := first | with_reducible rfl | assumption | omega | rfl | (simp only [go_sem]; first | done | omega)) only [go_sem, ↓reduceIte, reduceCtorEq, Nat.reduceEqDiff, Nat.reduceAdd, Nat.reduceSub, Nat.reduceMul, Nat.reduceDiv, Nat.reduceMod, Nat.reduceLeDiff, Nat.reduceLT, Nat.reduceBEq, Int.reduceEq, Int.reduceBEq, Int.reduceBNe, Int.reduceLT, Int.reduceLE, Int.reduceAdd, Int.reduceSub, Int.reduceNeg, Int.reduceToNat, Int.reducePow, Nat.reducePow, Int.reduceMul, Int.reduceDiv, ↓Vx, e1, ↓Ya m2, Ya m2]
    try rfl
  have hd := d_rows_digits (.int .u64 (n : Int)) H key
  unfold tidy at hd
  split at hd
  · rename_i hg
    simp only [Bool.and_eq_true] at hg
    have hv : v1 = .slice none 0 0 := by
      rcases s2.own with ⟨_, h⟩ | ⟨_, a, h, _⟩ | ⟨b, o', c, xs, h, _⟩
      · exact h
      · rw [h] at hg; simp [gr] at hg
      · rw [h] at hg; simp [gr] at hg
    refine ⟨v1, H, hd, Fr.refl H, ?_, fun b h => by rw [hv] at h; cases h⟩
    rcases s2.own with ⟨h1, h⟩ | ⟨_, a, h, _⟩ | ⟨b, o', c, xs, h, _⟩
    · exact .inl ⟨h1, h⟩
    · rw [hv] at h; cases h
    · rw [hv] at h; cases h
  · exact ⟨v1, H2, hd, s2⟩
structure Grw (H0 H : AHeap) (v : Value) (l : List UInt8) : Prop where
  still : Yq H0 H
  rd : BR H v l
  new : ∀ b, Yk v = some b → H0.n ≤ b
  gr : Own EB H T.uint8 v l ∨ Full v
theorem Since.grw {H0 H : AHeap} {v : Value} {l : List UInt8} (r : Since H0 H v l) : Grw H0 H v l := ⟨r.still, r.own.sl, r.new, .inl r.own⟩
theorem Grw.to {H0 H H' : AHeap} {v : Value} {l : List UInt8} (r : Grw H0 H v l) (s : Yq H H') : Grw H0 H' v l := ⟨r.still.trans s, r.rd.still s, r.new, r.gr.imp (fun h => h.still s) id⟩
theorem Grw.blk {H0 H : AHeap} {v : Value} {l : List UInt8} (r : Grw H0 H v l) {b : Nat} (h : Yk v = some b) : b < H.n := by
  rcases r.rd.2 with h' | ⟨b', o, n', code, h', _, _, h3⟩
  · rw [h'] at h; cases h
  · rw [h'] at h; cases h; exact h3
theorem Grw.app {H0 H : AHeap} {v : Value} {l : List UInt8} (r : Grw H0 H v l) {m : List UInt8} (hm : m ≠ []) {src : Option (Nat × List Value)} (hsrc : src = some (m.length, EB.cells m)) (hb : l.length + m.length ≤ 1000000000000) :
    ∃ v' H', Eng.app T.uint8 1 1 v src H = some (v', H') ∧ Since H0 H' v' (l ++ m) ∧ Fr (WP v) H H' := by
  rcases r.gr with ho | hf
  · obtain ⟨v', H', e1, e2, e3, e4⟩ := ho.appA m (sz := 1) (bytes := 1) rfl (by omega) (by omega) hsrc
    refine ⟨v', H', e1, ⟨r.still.then e3 fun b hb h => ?_, e2, fun b h => ?_⟩, e3⟩
    · unfold WP at h; have := r.new b h; omega
    · rcases e4 with h4 | h4
      · rw [h4] at h; exact r.new b h
      · rw [h4] at h; cases h; exact r.still.n
  · obtain ⟨v', H', e1, e2, e3, e4, _⟩ := Full.app (e := T.uint8) hf r.rd.1 hm (sz := 1) (bytes := 1) rfl (by omega) (by omega) hsrc
    exact ⟨v', H', e1, ⟨r.still.trans e3, e2, fun b h => by rw [e4] at h; cases h; exact r.still.n⟩, e3.mono fun b _ h => h.elim⟩
theorem Grw.lit {H0 H : AHeap} {v : Value} {l : List UInt8} (r : Grw H0 H v l) {m : List UInt8} (hm : m ≠ []) {H1 : AHeap} (h1 : H.push (.cells (EB.cells m) T.uint8 true) = H1) (hb : l.length + m.length ≤ 1000000000000) :
    ∃ v' H', Eng.app T.uint8 1 1 v (Vn 1 (.slice (some ⟨H.n, 0, none⟩) m.length (2 * m.length)) H1) H1 = some (v', H') ∧ Since H0 H' v' (l ++ m) ∧ Fr (WP v) H H' := by
  have s1 : Yq H H1 := by rw [← h1]; exact (Fr.refl H).push _
  have n1 : H1.n = H.n + 1 := by rw [← h1]; rfl
  have f1 : H1.f H.n = .cells (EB.cells m) T.uint8 true := by rw [← h1]; exact Yu rfl
  have rm : BR H1 (.slice (some ⟨H.n, 0, none⟩) m.length (2 * m.length)) m := newB (by omega) f1
  obtain ⟨v', H', e1, e2, e3⟩ := (r.to s1).app hm (rm.1.src (sz := 1) rfl) hb
  exact ⟨v', H', e1, e2, s1.still.then e3 fun b hb h => h⟩
def W1 (c : UInt8) : UInt8 := by8 (255 - c.toNat)
def enc (c : Cl) : List UInt8 :=
  if c.kind = 1 then by8 (dg c.u.toNat).length :: dg c.u.toNat
  else if c.kind = 2 then (if 0 ≤ c.i then by8 (128 + (dg c.i.toNat).length) :: dg c.i.toNat else by8 (127 - (dg (-(c.i + 1)).toNat).length) :: (dg (-(c.i + 1)).toNat).map W1)
  else if c.kind = 3 then esc (bl c.s) ++ [0, 1]
  else if c.b = true then [1] else [0]
def XK (c : Cl) : Prop := (0 ≤ c.u ∧ c.u < 18446744073709551616) ∧ (-9223372036854775808 ≤ c.i ∧ c.i < 9223372036854775808) ∧ (bl c.s).length ≤ 1000
theorem esc_len : ∀ l : List UInt8, (esc l).length ≤ 2 * l.length
  | [] => by simp [esc]
  | c :: l => by
    have := esc_len l
    unfold esc
    split <;> simp <;> omega
theorem enc_len {c : Cl} (h : XK c) : (enc c).length ≤ 3000 ∧ enc c ≠ [] := by
  have l1 := VA 8 c.u.toNat (by have := h.1; show _ < 18446744073709551616; omega)
  have l2 := VA 8 c.i.toNat (by have := h.2.1; show _ < 18446744073709551616; omega)
  have l3 := VA 8 (-(c.i + 1)).toNat (by have := h.2.1; show _ < 18446744073709551616; omega)
  have l4 := esc_len (bl c.s)
  have l5 := h.2.2
  unfold enc
  split
  · refine ⟨by simp; omega, by simp⟩
  · split
    · split
      · refine ⟨by simp; omega, by simp⟩
      · refine ⟨by simp; omega, by simp⟩
    · split
      · refine ⟨by simp; omega, by simp⟩
      · split <;> exact ⟨by simp, by simp⟩
end Go.Proofs.YtmiinbhnfojnbaaDoor

set_option maxRecDepth 10000
namespace Go.Proofs.YtmiinbhnfojnbaaDoor
open Go Eng
theorem Grw.appA {H0 H : AHeap} {v : Value} {l : List UInt8} (r : Grw H0 H v l) (m : List UInt8) {src : Option (Nat × List Value)} (hsrc : src = some (m.length, EB.cells m)) (hb : l.length + m.length ≤ 1000000000000) :
    ∃ v' H', Eng.app T.uint8 1 1 v src H = some (v', H') ∧ Grw H0 H' v' (l ++ m) ∧ Fr (WP v) H H' := by
  by_cases hm : m = []
  · subst hm
    obtain ⟨a, c, e⟩ := r.rd.1.shape
    refine ⟨v, H, ?_, by simpa using r, Fr.refl H⟩
    rw [e, hsrc]
    simp [Eng.app]
  · obtain ⟨v', H', e1, e2, e3⟩ := r.app hm hsrc hb
    exact ⟨v', H', e1, e2.grw, e3⟩
theorem Z1 {H0 H : AHeap} {v : Value} {l : List UInt8} (r : Since H0 H v l) (h : l ≠ []) : gr 9 v = false := by
  rcases r.own with ⟨e, _⟩ | ⟨e, _⟩ | ⟨b, o, c, xs, e, _⟩
  · exact absurd e h
  · exact absurd e h
  · rw [e]; rfl
theorem inv8_nat (c : UInt8) : ((W1 c).toNat : Int) = (255 - (c.toNat : Int)) % 256 := by
  have h := by8_cell (255 - c.toNat)
  unfold Xc at h
  injection h with _ h
  have := Eng.u8_lt c
  unfold W1
  rw [h]
  omega
theorem l_put (v w : Value) (H0 : AHeap) : ∀ (t pre : List UInt8) (H : AHeap), Since H0 H w (pre ++ t) → (pre ++ t).length ≤ 1000 →
    ∃ H', Since H0 H' w (pre ++ t.map W1) ∧ Fr (WP w) H H' ∧ ∀ K : K, Vl v w (.int .i64 ((pre ++ t).length : Int)) (.int .i64 (pre.length : Int)) H (YI [0, 7] 1 K) = K .normal [(0, v), (7, w)] H'
  | [], pre, H, so, hl => by
    have hlt : ¬ (pre.length : Int) < ((pre ++ []).length : Int) := by simp
    refine ⟨H, by simpa using so, Fr.refl H, fun K => ?_⟩
    rw [r_rows_put_0]
    simp (disch := first | with_reducible rfl | assumption | omega | rfl | (simp only [go_sem]; first | done | omega)) only [go_sem, ↓reduceIte, reduceCtorEq, Nat.reduceEqDiff, Nat.reduceAdd, Nat.reduceSub, Nat.reduceMul, Nat.reduceDiv, Nat.reduceMod, Nat.reduceLeDiff, Nat.reduceLT, Nat.reduceBEq, Int.reduceEq, Int.reduceBEq, Int.reduceBNe, Int.reduceLT, Int.reduceLE, Int.reduceAdd, Int.reduceSub, Int.reduceNeg, Int.reduceToNat, Int.reducePow, Nat.reducePow, Int.reduceMul, Int.reduceDiv, ↓Qa, hlt]
  | c :: t, pre, H, so, hl => by
    obtain ⟨L, hL⟩ : ∃ L, pre ++ c :: t = L := ⟨_, rfl⟩
    rw [hL] at so hl ⊢
    have hLl : L.length = pre.length + t.length + 1 := by rw [← hL]; simp; omega
    have hlt : (pre.length : Int) < (L.length : Int) := by omega
    have gi : L[pre.length]'(by omega) = c := by simp [← hL]
    obtain ⟨b, o, k, ix, cc, wr, so1⟩ := so.set (i := pre.length) (by omega) (W1 c)
    rw [gi] at cc
    obtain ⟨H1, hH1⟩ : ∃ H1, H.set b k = H1 := ⟨_, rfl⟩
    rw [hH1] at so1
    have e1 : L.set pre.length (W1 c) = (pre ++ [W1 c]) ++ t := by
      rw [← hL, List.set_append_right _ _ (Nat.le_refl _), Nat.sub_self, List.set_cons_zero]
      simp
    rw [e1] at so1
    have hl1 : ((pre ++ [W1 c]) ++ t).length = L.length := by simp; omega
    obtain ⟨H', so2, f2, e2⟩ := l_put v w H0 t (pre ++ [W1 c]) H1 so1 (by rw [hl1]; exact hl)
    rw [hl1] at e2
    have hbo : Yk w = some b := by
      obtain ⟨aa, cc, e⟩ := so.own.rd.shape
      rw [e] at ix ⊢
      cases aa with
      | none => simp [ixS] at ix
      | some ad =>
        obtain ⟨p, q, r⟩ := ad
        cases r with
        | some z => simp [ixS] at ix
        | none =>
          unfold ixS at ix
          simp only at ix
          split at ix
          · injection ix with h; injection h with h; injection h with h; injection h with h1 h2 h3; subst h1; rfl
          · cases ix
    have fr1 : Fr (WP w) H H1 := by rw [← hH1]; exact Fr.set (Fr.refl H) _ _ fun _ => hbo
    have sub1 : ∀ ox oy, Yf Tryd.prog .sub T.uint8 ox oy (.int .u8 255) (.int .u8 (c.toNat : Int)) = some (.int .u8 ((W1 c).toNat : Int)) := fun ox oy => by rw [xbin_sub, wrapU8, inv8_nat]
    refine ⟨H', by simpa using so2, fr1.trans f2, fun K => ?_⟩
    have := e2 K
    rw [show ((pre ++ [W1 c]).length : Int) = (pre.length : Int) + 1 by simp] at this
    rw [r_rows_put_0]
    simp (disch := first | with_reducible rfl | assumption | omega | rfl | (simp only [go_sem]; first | done | omega)) only [go_sem, ↓reduceIte, reduceCtorEq, Nat.reduceEqDiff, Nat.reduceAdd, Nat.reduceSub, Nat.reduceMul, Nat.reduceDiv, Nat.reduceMod, Nat.reduceLeDiff, Nat.reduceLT, Nat.reduceBEq, Int.reduceEq, Int.reduceBEq, Int.reduceBNe, Int.reduceLT, Int.reduceLE, Int.reduceAdd, Int.reduceSub, Int.reduceNeg, Int.reduceToNat, Int.reducePow, Nat.reducePow, Int.reduceMul, Int.reduceDiv, ↓Qa, hlt, ix, cc, sub1, wr, hH1]
    exact this
set_option maxHeartbeats 2000000 in
theorem q_put (c : Cl) (hc : XK c) (v : Value) (o : List UInt8) (H0 H : AHeap) (ok : OkH H) (g : Grw H0 H v o) (ho : o.length ≤ 1000000) : ∃ v' H', CC F.rows_put [v, .agg ⟨c.l⟩] H = some (v', H') ∧ Since H0 H' v' (o ++ enc c) := by
  obtain ⟨k1, u1, i1, s1, b1⟩ := c
  obtain ⟨H1, hH1⟩ : ∃ H1, H.push (.cells [.int .i64 k1, .int .u64 u1, .int .i64 i1, .string s1, .bool b1] T.api_Cell true) = H1 := ⟨_, rfl⟩
  have st : Yq H H1 := by rw [← hH1]; exact (Fr.refl H).push _
  have n1 : H1.n = H.n + 1 := by rw [← hH1]; rfl
  have f1 : H1.f H.n = .cells [.int .i64 k1, .int .u64 u1, .int .i64 i1, .string s1, .bool b1] T.api_Cell true := by rw [← hH1]; exact Yu rfl
  have g1 := g.to st
  have ok1 : OkH H1 := st.ok ok
  obtain ⟨⟨hu0, hu1⟩, ⟨hi0, hi1⟩, hs⟩ := hc
  dsimp only at hu0 hu1 hi0 hi1 hs
  have gblk : ∀ b, Yk v = some b → b < H.n := fun b h => g.blk h
  have cA : ∀ (m : Int) H, YP Tryd.prog T.int T.uint8 (.int .i64 m) H = some (.int .u8 (m % 256), H) := fun m H => by rw [x_int_uint8, wrapU8]
  have tail : ∀ (a : Nat) (d : List UInt8) (vd : Value) (Hd : AHeap), Since H1 Hd vd d → d.length ≤ 1000 →
      ∃ H2 v3 H3 v4 H4, Hd.push (.cells [.int .u8 ((a : Int) % 256)] T.uint8 true) = H2 ∧ Eng.app T.uint8 1 1 v (Vn 1 (.slice (some ⟨Hd.n, 0, none⟩) 1 2) H2) H2 = some (v3, H3) ∧ Eng.app T.uint8 1 1 v3 (Vn 1 vd H3) H3 = some (v4, H4) ∧ Since H0 H4 v4 (o ++ by8 a :: d) := fun a d vd Hd sd hd => by
    obtain ⟨H2, hH2⟩ : ∃ H2, Hd.push (.cells [.int .u8 ((a : Int) % 256)] T.uint8 true) = H2 := ⟨_, rfl⟩
    have hH2' : Hd.push (.cells (EB.cells [by8 a]) T.uint8 true) = H2 := by rw [cells_one]; exact hH2
    obtain ⟨v3, H3, a3, s3, fr3⟩ := (g1.to sd.still).lit (m := [by8 a]) (by simp) hH2' (by simp; omega)
    have r3 : BR H3 vd d := sd.own.sl.keep fr3 fun b hb h => by
      unfold WP at h
      have h1 := gblk b h
      have h2 := sd.new b hb
      omega
    obtain ⟨v4, H4, a4, s4⟩ := s3.app d (r3.1.src (sz := 1) rfl) (by simp; omega)
    exact ⟨H2, v3, H3, v4, H4, hH2, a3, a4, by simpa using s4⟩
  show ∃ v' H', CC F.rows_put [v, .agg ⟨[.int .i64 k1, .int .u64 u1, .int .i64 i1, .string s1, .bool b1]⟩] H = some (v', H') ∧ _
  unfold enc
  dsimp only
  by_cases h1 : k1 = 1
  · subst h1
    rw [if_pos rfl]
    obtain ⟨vd, Hd, md, sd⟩ := q_rdigits 8 u1.toNat H1 ok1 (by show _ < 18446744073709551616; omega) (by decide)
    have hl := VA 8 u1.toNat (by show _ < 18446744073709551616; omega)
    rw [show ((u1.toNat : Nat) : Int) = u1 by omega] at md
    have hld := sd.own.rd.lenS
    obtain ⟨H2, v3, H3, v4, H4, hH2, a3, a4, s4⟩ := tail (dg u1.toNat).length (dg u1.toNat) vd Hd sd (by omega)
    refine ⟨v4, H4, (U7 _ _ H ?_).trans (congrArg some (WK (Z1 s4 (by simp)))), s4⟩
    simp (disch := first | with_reducible rfl | assumption | omega | rfl | (simp only [go_sem]; first | done | omega)) only [go_sem, ↓reduceIte, reduceCtorEq, Nat.reduceEqDiff, Nat.reduceAdd, Nat.reduceSub, Nat.reduceMul, Nat.reduceDiv, Nat.reduceMod, Nat.reduceLeDiff, Nat.reduceLT, Nat.reduceBEq, Int.reduceEq, Int.reduceBEq, Int.reduceBNe, Int.reduceLT, Int.reduceLE, Int.reduceAdd, Int.reduceSub, Int.reduceNeg, Int.reduceToNat, Int.reducePow, Nat.reducePow, Int.reduceMul, Int.reduceDiv, ↓WZ, hH1, f1, ↓Ya md, Ya md, hld, cA, hH2, a3, a4]
  rw [if_neg h1]
  by_cases h2 : k1 = 2
  · subst h2
    rw [if_pos rfl]
    by_cases hi : 0 ≤ i1
    · rw [if_pos hi]
      obtain ⟨vd, Hd, md, sd⟩ := q_rdigits 8 i1.toNat H1 ok1 (by show _ < 18446744073709551616; omega) (by decide)
      have hl := VA 8 i1.toNat (by show _ < 18446744073709551616; omega)
      rw [show ((i1.toNat : Nat) : Int) = i1 by omega] at md
      have hld := sd.own.rd.lenS
      have hw : IntKind.wrap .u64 i1 = i1 := QT ⟨by omega, by omega⟩
      obtain ⟨H2, v3, H3, v4, H4, hH2, a3, a4, s4⟩ := tail (128 + (dg i1.toNat).length) (dg i1.toNat) vd Hd sd (by omega)
      rw [Int.natCast_add] at hH2
      have hH2 : Hd.push (.cells [.int .u8 ((128 + ((dg i1.toNat).length : Int)) % 256)] T.uint8 true) = H2 := hH2
      have ad : ∀ ox oy, Yf Tryd.prog .add T.int ox oy (.int .i64 128) (.int .i64 ((dg i1.toNat).length : Int)) = some (.int .i64 (128 + ((dg i1.toNat).length : Int))) := fun ox oy => add_i64 (by omega)
      refine ⟨v4, H4, (U7 _ _ H ?_).trans (congrArg some (WK (Z1 s4 (by simp)))), s4⟩
      simp (disch := first | with_reducible rfl | assumption | omega | rfl | (simp only [go_sem]; first | done | omega)) only [go_sem, ↓reduceIte, reduceCtorEq, Nat.reduceEqDiff, Nat.reduceAdd, Nat.reduceSub, Nat.reduceMul, Nat.reduceDiv, Nat.reduceMod, Nat.reduceLeDiff, Nat.reduceLT, Nat.reduceBEq, Int.reduceEq, Int.reduceBEq, Int.reduceBNe, Int.reduceLT, Int.reduceLE, Int.reduceAdd, Int.reduceSub, Int.reduceNeg, Int.reduceToNat, Int.reducePow, Nat.reducePow, Int.reduceMul, Int.reduceDiv, ↓WZ, hH1, f1, hi, x_int_uint64, hw, ↓Ya md, Ya md, hld, ad, cA, hH2, a3, a4]
    · rw [if_neg hi]
      obtain ⟨j, hj⟩ : ∃ j : Nat, -(i1 + 1) = j := ⟨(-(i1 + 1)).toNat, by omega⟩
      rw [hj, Int.toNat_natCast]
      obtain ⟨vd, Hd, md, sd⟩ := q_rdigits 8 j H1 ok1 (by show _ < 18446744073709551616; omega) (by decide)
      have hl := VA 8 j (by show _ < 18446744073709551616; omega)
      have hld := sd.own.rd.lenS
      have hw : IntKind.wrap .u64 (j : Int) = (j : Int) := QT ⟨by omega, by omega⟩
      have ad : ∀ ox oy, Yf Tryd.prog .add T.int ox oy (.int .i64 i1) (.int .i64 1) = some (.int .i64 (i1 + 1)) := fun ox oy => add_i64 (by omega)
      have ng : xun Tryd.prog .neg (.int .i64 (i1 + 1)) = some (.int .i64 (j : Int)) := by
        have : xun Tryd.prog .neg (.int .i64 (i1 + 1)) = some (.int .i64 (IntKind.wrap .i64 (-(i1 + 1)))) := by
          simp [xun, gr, pvg, pv, Op.unary, Op.intArith, Bind.bind, Sem.bind, Pure.pure]
        rw [this, hj, XE (by omega)]
      obtain ⟨He, se, fe, ee⟩ := l_put v vd H1 (dg j) [] Hd (by simpa using sd) (by simp; omega)
      have se : Since H1 He vd ((dg j).map W1) := by simpa using se
      have ee : ∀ K : K, Vl v vd (.int .i64 ((dg j).length : Int)) (.int .i64 0) Hd (YI [0, 7] 1 K) = K .normal [(0, v), (7, vd)] He := ee
      obtain ⟨H2, v3, H3, v4, H4, hH2, a3, a4, s4⟩ := tail (127 - (dg j).length) ((dg j).map W1) vd He se (by simp; omega)
      rw [show ((127 - (dg j).length : Nat) : Int) = 127 - ((dg j).length : Int) by omega] at hH2
      have sb : ∀ ox oy, Yf Tryd.prog .sub T.int ox oy (.int .i64 127) (.int .i64 ((dg j).length : Int)) = some (.int .i64 (127 - ((dg j).length : Int))) := fun ox oy => sub_i64 (by omega)
      refine ⟨v4, H4, (U7 _ _ H ?_).trans (congrArg some (WK (Z1 s4 (by simp)))), s4⟩
      simp (disch := first | with_reducible rfl | assumption | omega | rfl | (simp only [go_sem]; first | done | omega)) only [go_sem, ↓reduceIte, reduceCtorEq, Nat.reduceEqDiff, Nat.reduceAdd, Nat.reduceSub, Nat.reduceMul, Nat.reduceDiv, Nat.reduceMod, Nat.reduceLeDiff, Nat.reduceLT, Nat.reduceBEq, Int.reduceEq, Int.reduceBEq, Int.reduceBNe, Int.reduceLT, Int.reduceLE, Int.reduceAdd, Int.reduceSub, Int.reduceNeg, Int.reduceToNat, Int.reducePow, Nat.reducePow, Int.reduceMul, Int.reduceDiv, ↓WZ, hH1, f1, hi, ad, ng, x_int_uint64, hw, ↓Ya md, Ya md, hld, ee, sb, cA, hH2, a3, a4]
  rw [if_neg h2]
  by_cases h3 : k1 = 3
  · subst h3
    rw [if_pos rfl]
    have md := q_ReplaceAll s1 H1 (by omega)
    have hel := esc_len (bl s1)
    obtain ⟨v3, H3, a3, g3, _⟩ := g1.appA (esc (bl s1)) (src := srcT (.string (mk (esc (bl s1))))) (by rw [srcT_b, YT]) (by omega)
    obtain ⟨H4, hH4⟩ : ∃ H4, H3.push (.cells [.int .u8 0, .int .u8 1] T.uint8 true) = H4 := ⟨_, rfl⟩
    have hH4' : H3.push (.cells (EB.cells [0, 1]) T.uint8 true) = H4 := hH4
    obtain ⟨v5, H5, a5, s5, _⟩ := g3.lit (m := [0, 1]) (by simp) hH4' (by simp; omega)
    have a5 : Eng.app T.uint8 1 1 v3 (Vn 1 (.slice (some ⟨H3.n, 0, none⟩) 2 4) H4) H4 = some (v5, H5) := a5
    rw [List.append_assoc] at s5
    refine ⟨v5, H5, (U7 _ _ H ?_).trans (congrArg some (WK (Z1 s5 (by simp)))), s5⟩
    simp (disch := first | with_reducible rfl | assumption | omega | rfl | (simp only [go_sem]; first | done | omega)) only [go_sem, ↓reduceIte, reduceCtorEq, Nat.reduceEqDiff, Nat.reduceAdd, Nat.reduceSub, Nat.reduceMul, Nat.reduceDiv, Nat.reduceMod, Nat.reduceLeDiff, Nat.reduceLT, Nat.reduceBEq, Int.reduceEq, Int.reduceBEq, Int.reduceBNe, Int.reduceLT, Int.reduceLE, Int.reduceAdd, Int.reduceSub, Int.reduceNeg, Int.reduceToNat, Int.reducePow, Nat.reducePow, Int.reduceMul, Int.reduceDiv, ↓WZ, hH1, f1, ↓Ya md, Ya md, a3, hH4, a5]
  rw [if_neg h3]
  cases b1 with
  | true =>
    rw [if_pos rfl]
    obtain ⟨H2, hH2⟩ : ∃ H2, H1.push (.cells [.int .u8 1] T.uint8 true) = H2 := ⟨_, rfl⟩
    have hH2' : H1.push (.cells (EB.cells [1]) T.uint8 true) = H2 := hH2
    obtain ⟨v3, H3, a3, s3, _⟩ := g1.lit (m := [1]) (by simp) hH2' (by simp; omega)
    have a3 : Eng.app T.uint8 1 1 v (Vn 1 (.slice (some ⟨H1.n, 0, none⟩) 1 2) H2) H2 = some (v3, H3) := a3
    refine ⟨v3, H3, (U7 _ _ H ?_).trans (congrArg some (WK (Z1 s3 (by simp)))), s3⟩
    simp (disch := first | with_reducible rfl | assumption | omega | rfl | (simp only [go_sem]; first | done | omega)) only [go_sem, ↓reduceIte, reduceCtorEq, Nat.reduceEqDiff, Nat.reduceAdd, Nat.reduceSub, Nat.reduceMul, Nat.reduceDiv, Nat.reduceMod, Nat.reduceLeDiff, Nat.reduceLT, Nat.reduceBEq, Int.reduceEq, Int.reduceBEq, Int.reduceBNe, Int.reduceLT, Int.reduceLE, Int.reduceAdd, Int.reduceSub, Int.reduceNeg, Int.reduceToNat, Int.reducePow, Nat.reducePow, Int.reduceMul, Int.reduceDiv, ↓WZ, hH1, f1, h1, h2, h3, hH2, a3]
  | false =>
    rw [if_neg (by simp)]
    obtain ⟨H2, hH2⟩ : ∃ H2, H1.push (.cells [.int .u8 0] T.uint8 true) = H2 := ⟨_, rfl⟩
    have hH2' : H1.push (.cells (EB.cells [0]) T.uint8 true) = H2 := hH2
    obtain ⟨v3, H3, a3, s3, _⟩ := g1.lit (m := [0]) (by simp) hH2' (by simp; omega)
    have a3 : Eng.app T.uint8 1 1 v (Vn 1 (.slice (some ⟨H1.n, 0, none⟩) 1 2) H2) H2 = some (v3, H3) := a3
    refine ⟨v3, H3, (U7 _ _ H ?_).trans (congrArg some (WK (Z1 s3 (by simp)))), s3⟩
    simp (disch := first | with_reducible rfl | assumption | omega | rfl | (simp only [go_sem]; first | done | omega)) only [go_sem, ↓reduceIte, reduceCtorEq, Nat.reduceEqDiff, Nat.reduceAdd, Nat.reduceSub, Nat.reduceMul, Nat.reduceDiv, Nat.reduceMod, Nat.reduceLeDiff, Nat.reduceLT, Nat.reduceBEq, Int.reduceEq, Int.reduceBEq, Int.reduceBNe, Int.reduceLT, Int.reduceLE, Int.reduceAdd, Int.reduceSub, Int.reduceNeg, Int.reduceToNat, Int.reducePow, Nat.reducePow, Int.reduceMul, Int.reduceDiv, ↓WZ, hH1, f1, h1, h2, h3, hH2, a3]
end Go.Proofs.YtmiinbhnfojnbaaDoor

set_option maxRecDepth 10000
namespace Go.Proofs.YtmiinbhnfojnbaaDoor
open Go Eng
def Xj : List Cl → List UInt8
  | [] => []
  | c :: l => enc c ++ Xj l
theorem encs_len : ∀ {l : List Cl}, (∀ c ∈ l, XK c) → (Xj l).length ≤ 3000 * l.length
  | [], _ => by simp [Xj]
  | c :: l, h => by
    have h1 := encs_len (l := l) fun x hx => h x (by simp [hx])
    have h2 := (enc_len (h c (by simp))).1
    simp [Xj]; omega
theorem l_puts (l : List Cl) (hl : l.length ≤ 100) (hok : ∀ c ∈ l, XK c) (w : Value) (H0 : AHeap) (ok0 : OkH H0) (hw : Rd ECl H0 w l) : ∀ (t : List Cl) (i : Nat) (H : AHeap) (v : Value) (o : List UInt8), l.drop i = t → OkH H → Grw H0 H v o → o.length ≤ 3000 * i + 1000 →
    ∃ v' H', Grw H0 H' v' (o ++ Xj t) ∧ ∀ K : K, Wy v w (.int .i64 (l.length : Int)) (.int .i64 (i : Int)) H (YI [0] 0 K) = K .normal [(0, v')] H'
  | [], i, H, v, o, hx, ok, g, ho => by
    have h : l.length ≤ i := List.drop_eq_nil_iff.1 hx
    have hlt : ¬ (i : Int) < (l.length : Int) := by omega
    refine ⟨v, H, by simpa [Xj] using g, fun K => ?_⟩
    rw [r_rows_puts_0]
    simp (disch := first | with_reducible rfl | assumption | omega | rfl | (simp only [go_sem]; first | done | omega)) only [go_sem, ↓reduceIte, reduceCtorEq, Nat.reduceEqDiff, Nat.reduceAdd, Nat.reduceSub, Nat.reduceMul, Nat.reduceDiv, Nat.reduceMod, Nat.reduceLeDiff, Nat.reduceLT, Nat.reduceBEq, Int.reduceEq, Int.reduceBEq, Int.reduceBNe, Int.reduceLT, Int.reduceLE, Int.reduceAdd, Int.reduceSub, Int.reduceNeg, Int.reduceToNat, Int.reducePow, Nat.reducePow, Int.reduceMul, Int.reduceDiv, ↓UO, hlt]
  | c :: t, i, H, v, o, hx, ok, g, ho => by
    obtain ⟨h, hxa, hx'⟩ := WB hx
    have hlt : (i : Int) < (l.length : Int) := by omega
    have hcok := hok c (by rw [← hxa]; exact List.getElem_mem h)
    obtain ⟨b1, o1, i1, c1, _⟩ := rd_cell (hw.still g.still) h
    rw [hxa] at c1
    obtain ⟨H1, hH1⟩ : ∃ H1, (H.push (.cells [.int .i64 0, .int .u64 0, .int .i64 0, .string (mk []), .bool false] T.api_Cell true)).set H.n (.cells c.l T.api_Cell true) = H1 := ⟨_, rfl⟩
    have s1 : Yq H H1 := by rw [← hH1]; exact Fr.set ((Fr.refl H).push _) _ _ (fun h => by omega)
    have f1 : H1.f H.n = .cells c.l T.api_Cell true := by rw [← hH1]; exact YC
    obtain ⟨v2, H2, m2, s2⟩ := q_put c hcok v o H0 H1 (s1.ok ok) (g.to s1) (by omega)
    have hel := (enc_len hcok).1
    obtain ⟨v3, H3, g3, e3⟩ := l_puts l hl hok w H0 ok0 hw t (i + 1) H2 v2 (o ++ enc c) hx' (s2.still.ok ok0) s2.grw (by simp; omega)
    rw [Int.natCast_add] at e3
    unfold Cl.l at hH1 f1 c1 m2
    refine ⟨v3, H3, by simpa [Xj] using g3, fun K => ?_⟩
    have := e3 K
    rw [r_rows_puts_0]
    simp (disch := first | with_reducible rfl | assumption | omega | rfl | (simp only [go_sem]; first | done | omega)) only [go_sem, ↓reduceIte, reduceCtorEq, Nat.reduceEqDiff, Nat.reduceAdd, Nat.reduceSub, Nat.reduceMul, Nat.reduceDiv, Nat.reduceMod, Nat.reduceLeDiff, Nat.reduceLT, Nat.reduceBEq, Int.reduceEq, Int.reduceBEq, Int.reduceBNe, Int.reduceLT, Int.reduceLE, Int.reduceAdd, Int.reduceSub, Int.reduceNeg, Int.reduceToNat, Int.reducePow, Nat.reducePow, Int.reduceMul, Int.reduceDiv, ↓UO, hlt, i1, c1, hH1, f1, ↓Ya m2, Ya m2]
    exact this
theorem q_puts (l : List Cl) (hl : l.length ≤ 100) (hok : ∀ c ∈ l, XK c) (w v : Value) (o : List UInt8) (H0 H : AHeap) (ok0 : OkH H0) (hw : Rd ECl H0 w l) (g : Grw H0 H v o) (ho : o.length ≤ 1000) :
    ∃ H', CC F.rows_puts [v, w] H = some (.string (mk (o ++ Xj l)), H') ∧ Yq H0 H' := by
  have hlen := hw.lenS
  obtain ⟨v1, H1, g1, e1⟩ := l_puts l hl hok w H0 ok0 hw l 0 H v o rfl (g.still.ok ok0) g (by omega)
  have e1 : ∀ K : K, Wy v w (.int .i64 (l.length : Int)) (.int .i64 0) H (YI [0] 0 K) = K .normal [(0, v1)] H1 := e1
  have st := BR.str g1.rd
  have key : Uw Ye Ym Yg Tryd.prog CC Wy v w H (Yi Tryd.prog [.tmp 4]) = some (.string (mk (o ++ Xj l)), H1) := by
    simp (disch := first | with_reducible rfl | assumption | omega | rfl | (simp only [go_sem]; first | done | omega)) only [go_sem, ↓reduceIte, reduceCtorEq, Nat.reduceEqDiff, Nat.reduceAdd, Nat.reduceSub, Nat.reduceMul, Nat.reduceDiv, Nat.reduceMod, Nat.reduceLeDiff, Nat.reduceLT, Nat.reduceBEq, Int.reduceEq, Int.reduceBEq, Int.reduceBNe, Int.reduceLT, Int.reduceLE, Int.reduceAdd, Int.reduceSub, Int.reduceNeg, Int.reduceToNat, Int.reducePow, Nat.reducePow, Int.reduceMul, Int.reduceDiv, ↓Uw, hlen, e1, st]
    try rfl
  have hd := d_rows_puts v w H key
  unfold tidy at hd
  split at hd
  · exact ⟨H, hd, g.still⟩
  · exact ⟨H1, hd, g1.still⟩
theorem xix {s : ByteArray} {i : Nat} (h : i < (bl s).length) : Uj Tryd.prog T.string (.string s) (.int .i64 (i : Int)) = some (.int .u8 ((bl s)[i].toNat : Int)) := by
  have e : Uj Tryd.prog T.string (.string s) (.int .i64 (i : Int)) = (if (0 : Int) ≤ (i : Int) then ((bl s)[(i : Int).toNat]?).map Xc else none) := by
    have hu : Tryd.prog.underlying T.string = some .string := Tryd.underlying9
    unfold Uj; rw [hu]
  rw [e, if_pos (by omega), Int.toNat_natCast, List.getElem?_eq_getElem h]
  rfl
end Go.Proofs.YtmiinbhnfojnbaaDoor

set_option maxRecDepth 10000
namespace Go.Proofs.YtmiinbhnfojnbaaDoor
open Go Eng
def trimN (l : List UInt8) : Nat → Nat
  | 0 => 0
  | n + 1 => if l[n]? = some 255 then trimN l n else n + 1
def bumpB (l : List UInt8) (t : Nat) : List UInt8 := match t with
  | 0 => []
  | n + 1 => l.take n ++ [by8 ((l.getD n 0).toNat + 1)]
def bump (l : List UInt8) : List UInt8 := bumpB l (trimN l l.length)
theorem trimN_le (l : List UInt8) : ∀ n, trimN l n ≤ n
  | 0 => Nat.le_refl _
  | n + 1 => by
    unfold trimN
    split
    · exact Nat.le_succ_of_le (trimN_le l n)
    · exact Nat.le_refl _
theorem trimN_last (l : List UInt8) : ∀ n k, trimN l n = k + 1 → l[k]? ≠ some 255
  | 0, k, h => by cases h
  | n + 1, k, h => by
    unfold trimN at h
    split at h
    · exact trimN_last l n k h
    · rename_i h2
      have : n = k := by omega
      subst this; exact h2
theorem ff_lt {c : UInt8} (h : c ≠ 255) : (c.toNat : Int) < 255 := by
  have h1 := Eng.u8_lt c
  have h2 : c.toNat ≠ 255 := fun e => h (UInt8.toNat_inj.1 (by rw [e]; rfl))
  omega
theorem slT_hi {s : ByteArray} {q : IntKind} {j : Nat} (h : j ≤ (bl s).length) : slT (.string s) none (some (.int q (j : Int))) = some (.string (mk ((bl s).take j))) := by
  show ((Wl (bl s).length (bl s).length (some (.int q (j : Int)))).bind fun h => (WN h none).map fun l => Value.string (mk (((bl s).take h).drop l))) = _
  rw [high_nat h]
  rfl
theorem l_Span (l : List UInt8) (hl : l.length ≤ 100000) (v4 : Value) (bb : Nat) (H : AHeap) (hf : H.f bb = .cells (EB.cells l) T.uint8 true) : ∀ n, n ≤ l.length →
    ∀ K : K, Vv v4 (.slice (some ⟨bb, 0, none⟩) n (2 * l.length + 1)) H (YI [4, 7] 0 K) = K .normal [(4, v4), (7, .slice (some ⟨bb, 0, none⟩) (trimN l n) (2 * l.length + 1))] H
  | 0, _, K => by
    rw [ZA]
    simp (disch := first | with_reducible rfl | assumption | omega | rfl | (simp only [go_sem]; first | done | omega)) only [go_sem, ↓reduceIte, reduceCtorEq, Nat.reduceEqDiff, Nat.reduceAdd, Nat.reduceSub, Nat.reduceMul, Nat.reduceDiv, Nat.reduceMod, Nat.reduceLeDiff, Nat.reduceLT, Nat.reduceBEq, Int.reduceEq, Int.reduceBEq, Int.reduceBNe, Int.reduceLT, Int.reduceLE, Int.reduceAdd, Int.reduceSub, Int.reduceNeg, Int.reduceToNat, Int.reducePow, Nat.reducePow, Int.reduceMul, Int.reduceDiv, ↓VM]
    rfl
  | n + 1, h, K => by
    have hn : n < l.length := by omega
    obtain ⟨c, hc⟩ : ∃ c, l[n] = c := ⟨_, rfl⟩
    have hget : l[n]? = some c := by rw [List.getElem?_eq_getElem hn, hc]
    obtain ⟨v, hv⟩ : ∃ v, Value.slice (some ⟨bb, 0, none⟩) (n + 1) (2 * l.length + 1) = v := ⟨_, rfl⟩
    have lv : lenS v = some (.int .i64 ((n + 1 : Nat) : Int)) := by rw [← hv]; rfl
    have ix := ixS_nat (sz := 1) (b := bb) (o := 0) (len := n + 1) (code := 2 * l.length + 1) (k := n) (q := .i64) (by omega)
    rw [hv, Nat.mul_one, Nat.zero_add] at ix
    have cl : X4 (H.f bb) n = some (.int .u8 (c.toNat : Int)) := by
      rw [hf, cellB_c, V8, List.getElem?_map, hget]; rfl
    have hpos : 0 < ((n + 1 : Nat) : Int) := by omega
    have sub1 : ∀ ox oy, Yf Tryd.prog .sub T.int ox oy (.int .i64 ((n + 1 : Nat) : Int)) (.int .i64 1) = some (.int .i64 (n : Int)) := fun ox oy => by
      rw [show (n : Int) = ((n + 1 : Nat) : Int) - 1 by omega]; exact sub_i64 (by omega)
    have sl1 := sl_hi (e := T.uint8) (H := H) (b := bb) (o := 0) (n := n + 1) (c := l.length) (i := n) (sz := 1) (q := .i64) hf (by omega)
    rw [hv] at sl1
    rw [hv]
    generalize ((n + 1 : Nat) : Int) = m at lv hpos sub1
    unfold trimN
    rw [hget]
    by_cases h255 : c = 255
    · have he : ((c.toNat : Int) = 255) = True := by simp [h255]
      rw [if_pos (by rw [h255])]
      have := l_Span l hl v4 bb H hf n (by omega) K
      rw [ZA]
      simp (disch := first | with_reducible rfl | assumption | omega | rfl | (simp only [go_sem]; first | done | omega)) only [go_sem, ↓reduceIte, reduceCtorEq, Nat.reduceEqDiff, Nat.reduceAdd, Nat.reduceSub, Nat.reduceMul, Nat.reduceDiv, Nat.reduceMod, Nat.reduceLeDiff, Nat.reduceLT, Nat.reduceBEq, Int.reduceEq, Int.reduceBEq, Int.reduceBNe, Int.reduceLT, Int.reduceLE, Int.reduceAdd, Int.reduceSub, Int.reduceNeg, Int.reduceToNat, Int.reducePow, Nat.reducePow, Int.reduceMul, Int.reduceDiv, ↓VM, lv, hpos, sub1, ix, cl, he, sl1]
      exact this
    · have he : ¬ ((c.toNat : Int) = 255) := by have := ff_lt h255; omega
      rw [if_neg (by simpa using h255)]
      rw [ZA]
      simp (disch := first | with_reducible rfl | assumption | omega | rfl | (simp only [go_sem]; first | done | omega)) only [go_sem, ↓reduceIte, reduceCtorEq, Nat.reduceEqDiff, Nat.reduceAdd, Nat.reduceSub, Nat.reduceMul, Nat.reduceDiv, Nat.reduceMod, Nat.reduceLeDiff, Nat.reduceLT, Nat.reduceBEq, Int.reduceEq, Int.reduceBEq, Int.reduceBNe, Int.reduceLT, Int.reduceLE, Int.reduceAdd, Int.reduceSub, Int.reduceNeg, Int.reduceToNat, Int.reducePow, Nat.reducePow, Int.reduceMul, Int.reduceDiv, ↓VM, lv, hpos, sub1, ix, cl, he]
      rw [hv]
end Go.Proofs.YtmiinbhnfojnbaaDoor

set_option maxRecDepth 10000
namespace Go.Proofs.YtmiinbhnfojnbaaDoor
open Go Eng
theorem x_sb (l : List UInt8) (H : AHeap) : YP Tryd.prog T.string T.sl_uint8 (.string (mk l)) H = some (.slice (some ⟨H.n, 0, none⟩) l.length (2 * l.length + 1), H.push (.cells (EB.cells l) T.uint8 true)) := by
  have h1 : Tryd.prog.underlying T.string = some .string := Tryd.underlying9
  have h2 : Tryd.prog.underlying T.sl_uint8 = some (.slice T.uint8) := Tryd.underlying104
  have h3 : Tryd.prog.underlying T.uint8 = some (.int .u8) := Tryd.underlying5
  have h4 : Tryd.prog.cellsOf T.uint8 = 1 := by kernel_rfl
  unfold YP
  simp only [h1, h2, h3, h4, if_true, YT, V8]
theorem are2_take : ∀ (l : List Cl) (a : List Int), l.length ≤ a.length → VQ l (a.take l.length) = VQ l a
  | [], _, _ => by simp [VQ]
  | c :: l, [], h => by simp at h
  | c :: l, k :: a, h => by
    show (XL c k && VQ l (a.take l.length)) = (XL c k && VQ l a)
    rw [are2_take l a (by simpa using h)]
def spanOk (n : Int) (kl rl : List Int) (l : List Cl) : Bool := Uh n kl rl && (decide (l.length ≤ kl.length) && VQ l kl)
theorem validP_n {n : Int} {kl rl : List Int} (h : Uh n kl rl = true) : 1 ≤ n ∧ n ≤ 255 ∧ kl.length ≤ 8 ∧ rl.length ≤ 8 := by
  unfold Uh at h
  simp only [Bool.and_eq_true, decide_eq_true_eq] at h
  exact ⟨h.1, h.2.1, h.2.2.2.1, h.2.2.2.2.1⟩
set_option maxHeartbeats 1000000 in
theorem q_Span (n : Int) (kv rv : Value) (kl rl : List Int) (l : List Cl) (w : Value) (H : AHeap) (ok : OkH H) (hk : KR H kv kl) (hr : KR H rv rl) (hw : Rd ECl H w l) (hl : l.length ≤ 100) (hc : ∀ c ∈ l, XK c) (h : spanOk n kl rl l = true) :
    ∃ H', Yq H H' ∧ CC F.rows_Span [tbV n kv rv, w] H = some (if 24 < (by8 n.toNat :: Xj l).length then .tuple #[.string (mk []), .string (mk []), .int .i64 5] else .tuple #[.string (mk (by8 n.toNat :: Xj l)), .string (mk (bump (by8 n.toNat :: Xj l))), .int .i64 0], H') := by
  obtain ⟨H1, hH1⟩ : ∃ H1, H.push (.cells [.int .i64 n, kv, rv] T.api_Table true) = H1 := ⟨_, rfl⟩
  have s1 : Yq H H1 := by rw [← hH1]; exact (Fr.refl H).push _
  have f1 : H1.f H.n = .cells [.int .i64 n, kv, rv] T.api_Table true := by rw [← hH1]; exact Yu rfl
  have lk := hk.1.lenS
  have lw := hw.lenS
  have m1 := q_Valid n kv rv kl rl H1 (hk.still s1) (hr.still s1)
  unfold spanOk at h
  simp only [Bool.and_eq_true, decide_eq_true_eq] at h
  obtain ⟨hv, hle, har⟩ := h
  have hvn := validP_n hv
  rw [hv] at m1
  have h2 : ¬ (kl.length : Int) < (l.length : Int) := by omega
  obtain ⟨k2, a2, r2, _⟩ := (hk.still s1).to (sz := 1) rfl (j := l.length) (q := .i64) hle
  have m2 := q_are l (kl.take l.length) w k2 H1 (hw.still s1) r2 (by omega)
  have e : Vf l (kl.take l.length) = true := by unfold Vf; rw [are2_take l kl hle, har, Bool.and_true]; simp; omega
  rw [e] at m2
  have cA : ∀ H, YP Tryd.prog T.int T.uint8 (.int .i64 n) H = some (.int .u8 (((n.toNat : Nat) : Int) % 256), H) := fun H => by rw [x_int_uint8, wrapU8, show ((n.toNat : Nat) : Int) = n by omega]
  obtain ⟨H2, hH2⟩ : ∃ H2, H1.push (.cells [.int .u8 (((n.toNat : Nat) : Int) % 256)] T.uint8 true) = H2 := ⟨_, rfl⟩
  have sB : Yq H1 H2 := by rw [← hH2]; exact (Fr.refl H1).push _
  have f2 : H2.f H1.n = .cells (EB.cells [by8 n.toNat]) T.uint8 true := by rw [cells_one, ← hH2]; exact Yu rfl
  have g2 : Grw H1 H2 (.slice (some ⟨H1.n, 0, none⟩) 1 2) [by8 n.toNat] := ⟨sB, newB (l := [by8 n.toNat]) (by rw [← hH2]; exact Nat.lt_succ_self _) f2, fun b h => by cases h; exact Nat.le_refl _, .inr (.inr ⟨H1.n, 0, 1, rfl⟩)⟩
  obtain ⟨H3, m3, s3⟩ := q_puts l hl hc w (.slice (some ⟨H1.n, 0, none⟩) 1 2) [by8 n.toNat] H1 H2 (s1.ok ok) (hw.still s1) g2 (by simp)
  have m3 : CC F.rows_puts [.slice (some ⟨H1.n, 0, none⟩) 1 2, w] H2 = some (.string (mk (by8 n.toNat :: Xj l)), H3) := m3
  obtain ⟨x, hx⟩ : ∃ x, by8 n.toNat :: Xj l = x := ⟨_, rfl⟩
  have hxl : x.length ≤ 100000 := by have := encs_len hc; rw [← hx]; simp; omega
  have hx0 : x ≠ [] := by rw [← hx]; simp
  rw [hx] at m3 ⊢
  by_cases h24 : 24 < (x.length : Int)
  · rw [if_pos (by omega)]
    refine ⟨H, Fr.refl H, ?_⟩
    apply Yj _ (d_rows_Span _ _ H) rfl
    rotate_left 2
    · simp (disch := first | with_reducible rfl | assumption | omega | rfl | (simp only [go_sem]; first | done | omega)) only [go_sem, ↓reduceIte, reduceCtorEq, Nat.reduceEqDiff, Nat.reduceAdd, Nat.reduceSub, Nat.reduceMul, Nat.reduceDiv, Nat.reduceMod, Nat.reduceLeDiff, Nat.reduceLT, Nat.reduceBEq, Int.reduceEq, Int.reduceBEq, Int.reduceBNe, Int.reduceLT, Int.reduceLE, Int.reduceAdd, Int.reduceSub, Int.reduceNeg, Int.reduceToNat, Int.reducePow, Nat.reducePow, Int.reduceMul, Int.reduceDiv, ↓VH, hH1, f1, ↓Ya m1, Ya m1, lk, lw, h2, a2, ↓Ya m2, Ya m2, cA, hH2, ↓Ya m3, Ya m3, YT, h24]
      rfl
    · exact s1.trans s3
  rw [if_neg (by omega)]
  obtain ⟨H4, hH4⟩ : ∃ H4, H3.push (.cells (EB.cells x) T.uint8 true) = H4 := ⟨_, rfl⟩
  have sD : Yq H3 H4 := by rw [← hH4]; exact (Fr.refl H3).push _
  have f4 : H4.f H3.n = .cells (EB.cells x) T.uint8 true := by rw [← hH4]; exact Yu rfl
  have n4 : H3.n < H4.n := by rw [← hH4]; exact Nat.lt_succ_self _
  have cv := x_sb x H3
  rw [hH4] at cv
  have z1 := l_Span x hxl (.string (mk x)) H3.n H4 f4 x.length (Nat.le_refl _)
  have tl := trimN_le x x.length
  have tlast := trimN_last x x.length
  have s4 : Yq H H4 := (s1.trans s3).trans sD
  unfold bump
  cases htr : trimN x x.length with
  | zero =>
    rw [htr] at z1
    have l0 : lenS (.slice (some ⟨H3.n, 0, none⟩) 0 (2 * x.length + 1)) = some (.int .i64 0) := rfl
    have r0 : BR H4 (.slice (some ⟨H3.n, 0, none⟩) 0 (2 * x.length + 1)) [] := ⟨.inr (.inl ⟨rfl, _, _, rfl, rfl⟩), .inr ⟨_, _, _, _, rfl, Nat.zero_le _, .inr (by rw [f4]; simp [Qy]), n4⟩⟩
    have sx := BR.str r0
    refine ⟨H, Fr.refl H, ?_⟩
    show _ = some (Value.tuple #[.string (mk x), .string (mk []), .int .i64 0], H)
    apply Yj _ (d_rows_Span _ _ H) rfl
    rotate_left 2
    · simp (disch := first | with_reducible rfl | assumption | omega | rfl | (simp only [go_sem]; first | done | omega)) only [go_sem, ↓reduceIte, reduceCtorEq, Nat.reduceEqDiff, Nat.reduceAdd, Nat.reduceSub, Nat.reduceMul, Nat.reduceDiv, Nat.reduceMod, Nat.reduceLeDiff, Nat.reduceLT, Nat.reduceBEq, Int.reduceEq, Int.reduceBEq, Int.reduceBNe, Int.reduceLT, Int.reduceLE, Int.reduceAdd, Int.reduceSub, Int.reduceNeg, Int.reduceToNat, Int.reducePow, Nat.reducePow, Int.reduceMul, Int.reduceDiv, ↓VH, hH1, f1, ↓Ya m1, Ya m1, lk, lw, h2, a2, ↓Ya m2, Ya m2, cA, hH2, ↓Ya m3, Ya m3, YT, h24]
      simp (disch := first | with_reducible rfl | assumption | omega | rfl | (simp only [go_sem]; first | done | omega)) only [go_sem, ↓reduceIte, reduceCtorEq, Nat.reduceEqDiff, Nat.reduceAdd, Nat.reduceSub, Nat.reduceMul, Nat.reduceDiv, Nat.reduceMod, Nat.reduceLeDiff, Nat.reduceLT, Nat.reduceBEq, Int.reduceEq, Int.reduceBEq, Int.reduceBNe, Int.reduceLT, Int.reduceLE, Int.reduceAdd, Int.reduceSub, Int.reduceNeg, Int.reduceToNat, Int.reducePow, Nat.reducePow, Int.reduceMul, Int.reduceDiv, cv, z1, l0, sx]
      rfl
    · exact s4
  | succ k =>
    rw [htr] at z1 tl
    have hkx : k < x.length := by omega
    obtain ⟨c, hcx⟩ : ∃ c, x[k] = c := ⟨_, rfl⟩
    have hget : x[k]? = some c := by rw [List.getElem?_eq_getElem hkx, hcx]
    obtain ⟨v, hv⟩ : ∃ v, Value.slice (some ⟨H3.n, 0, none⟩) (k + 1) (2 * x.length + 1) = v := ⟨_, rfl⟩
    rw [hv] at z1
    have hto : (x.take (k + 1)).length = k + 1 := by simp; omega
    have ow : Own EB H4 T.uint8 v (x.take (k + 1)) := by
      refine .inr (.inr ⟨H3.n, 0, x.length, EB.cells x, by rw [hto, hv], by rw [hto]; omega, n4, f4, by rw [V8]; simp [EB], ?_⟩)
      rw [hto, List.drop_zero, V8, V8, List.map_take]
      simp [EB]
    have so : Since H3 H4 v (x.take (k + 1)) := ⟨sD, ow, fun b h => by rw [← hv] at h; cases h; exact Nat.le_refl _⟩
    obtain ⟨b, o, kk, ix, cl, wr, so2⟩ := so.set (i := k) (by omega) (by8 (c.toNat + 1))
    rw [show (x.take (k + 1))[k]'(by omega) = c by simp [hcx]] at cl
    obtain ⟨H5, hH5⟩ : ∃ H5, H4.set b kk = H5 := ⟨_, rfl⟩
    rw [hH5] at so2
    have sx := BR.str so2.own.sl
    have eb : (x.take (k + 1)).set k (by8 (c.toNat + 1)) = bumpB x (k + 1) := by
      show _ = x.take k ++ [by8 ((x.getD k 0).toNat + 1)]
      rw [List.getD_eq_getElem?_getD, hget, List.take_succ_eq_append_getElem hkx, List.set_append_right _ _ (by simp; omega)]
      simp [show k - min k x.length = 0 by omega]
    rw [eb] at sx
    have lv : lenS v = some (.int .i64 ((k + 1 : Nat) : Int)) := by rw [← hv]; rfl
    have hpos : 0 < ((k + 1 : Nat) : Int) := by omega
    have sub1 : ∀ ox oy, Yf Tryd.prog .sub T.int ox oy (.int .i64 ((k + 1 : Nat) : Int)) (.int .i64 1) = some (.int .i64 (k : Int)) := fun ox oy => by
      rw [show (k : Int) = ((k + 1 : Nat) : Int) - 1 by omega]; exact sub_i64 (by omega)
    have add1 : ∀ ox oy, Yf Tryd.prog .add T.uint8 ox oy (.int .u8 (c.toNat : Int)) (.int .u8 1) = some (.int .u8 ((by8 (c.toNat + 1)).toNat : Int)) := fun ox oy => by
      have h8 := by8_cell (c.toNat + 1)
      unfold Xc at h8
      injection h8 with _ h8
      rw [Ud, wrapU8, h8]; rfl
    generalize ((k + 1 : Nat) : Int) = m at lv hpos sub1
    refine ⟨H, Fr.refl H, ?_⟩
    apply Yj _ (d_rows_Span _ _ H) rfl
    rotate_left 2
    · simp (disch := first | with_reducible rfl | assumption | omega | rfl | (simp only [go_sem]; first | done | omega)) only [go_sem, ↓reduceIte, reduceCtorEq, Nat.reduceEqDiff, Nat.reduceAdd, Nat.reduceSub, Nat.reduceMul, Nat.reduceDiv, Nat.reduceMod, Nat.reduceLeDiff, Nat.reduceLT, Nat.reduceBEq, Int.reduceEq, Int.reduceBEq, Int.reduceBNe, Int.reduceLT, Int.reduceLE, Int.reduceAdd, Int.reduceSub, Int.reduceNeg, Int.reduceToNat, Int.reducePow, Nat.reducePow, Int.reduceMul, Int.reduceDiv, ↓VH, hH1, f1, ↓Ya m1, Ya m1, lk, lw, h2, a2, ↓Ya m2, Ya m2, cA, hH2, ↓Ya m3, Ya m3, YT, h24]
      simp (disch := first | with_reducible rfl | assumption | omega | rfl | (simp only [go_sem]; first | done | omega)) only [go_sem, ↓reduceIte, reduceCtorEq, Nat.reduceEqDiff, Nat.reduceAdd, Nat.reduceSub, Nat.reduceMul, Nat.reduceDiv, Nat.reduceMod, Nat.reduceLeDiff, Nat.reduceLT, Nat.reduceBEq, Int.reduceEq, Int.reduceBEq, Int.reduceBNe, Int.reduceLT, Int.reduceLE, Int.reduceAdd, Int.reduceSub, Int.reduceNeg, Int.reduceToNat, Int.reducePow, Nat.reducePow, Int.reduceMul, Int.reduceDiv, cv, z1, lv, hpos, sub1, ix, cl, add1, wr, hH5, sx]
      rfl
    · exact (s1.trans s3).trans so2.still
end Go.Proofs.YtmiinbhnfojnbaaDoor

set_option maxRecDepth 10000
namespace Go.Proofs.YtmiinbhnfojnbaaDoor
open Go Eng
abbrev CR (H : AHeap) (v : Value) (l : List Cl) : Prop := RdS ECl T.api_Cell H v l
theorem x_num {n : Int} (h1 : 1 ≤ n) : ∀ H, YP Tryd.prog T.int T.uint8 (.int .i64 n) H = some (.int .u8 (((n.toNat : Nat) : Int) % 256), H) := fun H => by
  rw [x_int_uint8, wrapU8, show ((n.toNat : Nat) : Int) = n by omega]
theorem grw_num {n : Int} {H1 H2 : AHeap} (hH2 : H1.push (.cells [.int .u8 (((n.toNat : Nat) : Int) % 256)] T.uint8 true) = H2) : Grw H1 H2 (.slice (some ⟨H1.n, 0, none⟩) 1 2) [by8 n.toNat] := by
  have sB : Yq H1 H2 := by rw [← hH2]; exact (Fr.refl H1).push _
  have f2 : H2.f H1.n = .cells (EB.cells [by8 n.toNat]) T.uint8 true := by rw [cells_one, ← hH2]; exact Yu rfl
  exact ⟨sB, newB (l := [by8 n.toNat]) (by rw [← hH2]; exact Nat.lt_succ_self _) f2, fun b h => by cases h; exact Nat.le_refl _, .inr (.inr ⟨H1.n, 0, 1, rfl⟩)⟩
theorem grw_nil (H : AHeap) : Grw H H (.slice none 0 0) [] :=
  Since.grw ⟨Fr.refl H, .inl ⟨rfl, rfl⟩, fun b h => by cases h⟩
theorem slS_still {e e' : TypeId} {sz : Nat} {H H' : AHeap} {v : Value} (hw : SlOk e H v) (s : Yq H H') {lo hi mx : Option Value} : slS e' sz v lo hi mx H' = slS e' sz v lo hi mx H := by
  rcases hw with rfl | ⟨b, o, n, code, rfl, _, _, hb⟩
  · rfl
  · simp only [slS, s.f hb fun h => h]
def Wx (n : Int) (kl rl : List Int) (l : List Cl) : Bool := Uh n kl rl && Vf l kl
def rowOk (n : Int) (kl rl : List Int) (l : List Cl) : Bool := Uh n kl rl && Vf l (kl ++ rl)
def keyB (n : Int) (kl : List Int) (l : List Cl) : List UInt8 := by8 n.toNat :: Xj (l.take kl.length)
def valB (kl : List Int) (l : List Cl) : List UInt8 := Xj (l.drop kl.length)
set_option maxHeartbeats 1000000 in
theorem q_Row (n : Int) (kv rv : Value) (kl rl : List Int) (l : List Cl) (w : Value) (H : AHeap) (ok : OkH H) (hk : KR H kv kl) (hr : KR H rv rl) (hw : CR H w l) (hl : l.length ≤ 100) (hc : ∀ c ∈ l, XK c) :
    CC F.rows_Row [tbV n kv rv, w] H = some (if rowOk n kl rl l = true then (if 24 < (keyB n kl l).length ∨ 40 < (valB kl l).length then .tuple #[.string (mk []), .string (mk []), .int .i64 5] else .tuple #[.string (mk (keyB n kl l)), .string (mk (valB kl l)), .int .i64 0]) else .tuple #[.string (mk []), .string (mk []), .int .i64 2], H) := by
  obtain ⟨H1, hH1⟩ : ∃ H1, H.push (.cells [.int .i64 n, kv, rv] T.api_Table true) = H1 := ⟨_, rfl⟩
  have s1 : Yq H H1 := by rw [← hH1]; exact (Fr.refl H).push _
  have f1 : H1.f H.n = .cells [.int .i64 n, kv, rv] T.api_Table true := by rw [← hH1]; exact Yu rfl
  have n1 : H.n < H1.n := by rw [← hH1]; exact Nat.lt_succ_self _
  have lk := hk.1.lenS
  have m1 := q_Valid n kv rv kl rl H1 (hk.still s1) (hr.still s1)
  unfold rowOk
  cases hv : Uh n kl rl with
  | false =>
    rw [hv] at m1
    rw [Bool.false_and, if_neg (by decide)]
    apply Yj _ (QV _ _ H) rfl
    rotate_left 2
    · simp (disch := first | with_reducible rfl | assumption | omega | rfl | (simp only [go_sem]; first | done | omega)) only [go_sem, ↓reduceIte, reduceCtorEq, Nat.reduceEqDiff, Nat.reduceAdd, Nat.reduceSub, Nat.reduceMul, Nat.reduceDiv, Nat.reduceMod, Nat.reduceLeDiff, Nat.reduceLT, Nat.reduceBEq, Int.reduceEq, Int.reduceBEq, Int.reduceBNe, Int.reduceLT, Int.reduceLE, Int.reduceAdd, Int.reduceSub, Int.reduceNeg, Int.reduceToNat, Int.reducePow, Nat.reducePow, Int.reduceMul, Int.reduceDiv, ↓Vk, hH1, f1, ↓Ya m1, Ya m1]
      rfl
    · exact s1
  | true =>
  rw [hv] at m1
  rw [Bool.true_and]
  have hvn := validP_n hv
  have h1k : 1 ≤ kl.length := by
    unfold Uh at hv
    simp only [Bool.and_eq_true, decide_eq_true_eq] at hv
    exact hv.2.2.1
  obtain ⟨ak, ck, hkv⟩ := hk.1.shape
  obtain ⟨ar, cr, hrv⟩ := hr.1.shape
  obtain ⟨H2, hH2⟩ : ∃ H2, H1.push (.cells [kv, rv] T.sl_api_CellKind true) = H2 := ⟨_, rfl⟩
  have s2 : Yq H1 H2 := by rw [← hH2]; exact (Fr.refl H1).push _
  have f2 : H2.f H1.n = .cells [kv, rv] T.sl_api_CellKind true := by rw [← hH2]; exact Yu rfl
  have n2 : H1.n < H2.n := by rw [← hH2]; exact Nat.lt_succ_self _
  obtain ⟨v3, H3, m3, r3, s3⟩ := q_Concat H1.n kv rv kl rl H2 n2 f2 ((hk.still s1).still s2) ((hr.still s1).still s2) h1k hvn.2.2.1 hvn.2.2.2
  have s03 := (s1.trans s2).trans s3
  have m4 := q_are l (kl ++ rl) w v3 H3 (hw.still s03).1 r3 (by omega)
  cases ha : Vf l (kl ++ rl) with
  | false =>
    rw [ha] at m4
    rw [if_neg (by decide)]
    subst hkv hrv
    apply Yj _ (QV _ _ H) rfl
    rotate_left 2
    · simp (disch := first | with_reducible rfl | assumption | omega | rfl | (simp only [go_sem]; first | done | omega)) only [go_sem, ↓reduceIte, reduceCtorEq, Nat.reduceEqDiff, Nat.reduceAdd, Nat.reduceSub, Nat.reduceMul, Nat.reduceDiv, Nat.reduceMod, Nat.reduceLeDiff, Nat.reduceLT, Nat.reduceBEq, Int.reduceEq, Int.reduceBEq, Int.reduceBNe, Int.reduceLT, Int.reduceLE, Int.reduceAdd, Int.reduceSub, Int.reduceNeg, Int.reduceToNat, Int.reducePow, Nat.reducePow, Int.reduceMul, Int.reduceDiv, ↓Vk, hH1, f1, ↓Ya m1, Ya m1, hH2, ↓Ya m3, Ya m3, ↓Ya m4, Ya m4]
      rfl
    · exact s03
  | true =>
  rw [ha] at m4
  rw [if_pos rfl]
  have hll : l.length = kl.length + rl.length := by
    unfold Vf at ha
    simp only [Bool.and_eq_true, decide_eq_true_eq] at ha
    simpa using ha.1
  have f3 : H3.f H.n = .cells [.int .i64 n, kv, rv] T.api_Table true := by rw [(s2.trans s3).f n1 fun h => h]; exact f1
  have cA := x_num hvn.1
  obtain ⟨H4, hH4⟩ : ∃ H4, H3.push (.cells [.int .u8 (((n.toNat : Nat) : Int) % 256)] T.uint8 true) = H4 := ⟨_, rfl⟩
  have s4 : Yq H3 H4 := by rw [← hH4]; exact (Fr.refl H3).push _
  have f4 : H4.f H.n = .cells [.int .i64 n, kv, rv] T.api_Table true := by rw [((s2.trans s3).trans s4).f n1 fun h => h]; exact f1
  obtain ⟨k5, a5', r5, _⟩ := (hw.still s03).to (sz := 5) rfl (j := kl.length) (q := .i64) (by omega)
  have a5 : slS T.api_Cell 5 w none (some (.int .i64 (kl.length : Int))) none H4 = some k5 := by
    rw [slS_still (hw.still s03).2 s4]; exact a5'
  obtain ⟨H5, m5, s5⟩ := q_puts (l.take kl.length) (by simp; omega) (fun c h => hc c (List.mem_of_mem_take h)) k5 (.slice (some ⟨H3.n, 0, none⟩) 1 2) [by8 n.toNat] H3 H4 (s03.ok ok) r5.1 (grw_num hH4) (by simp)
  have m5 : CC F.rows_puts [.slice (some ⟨H3.n, 0, none⟩) 1 2, k5] H4 = some (.string (mk (keyB n kl l)), H5) := m5
  have s05 := s03.trans s5
  have f5 : H5.f H.n = .cells [.int .i64 n, kv, rv] T.api_Table true := by rw [((s2.trans s3).trans s5).f n1 fun h => h]; exact f1
  obtain ⟨k6, a6, r6, _⟩ := (hw.still s05).from (sz := 5) rfl (i := kl.length) (q := .i64) (by omega)
  obtain ⟨H6, m6, s6⟩ := q_puts (l.drop kl.length) (by simp; omega) (fun c h => hc c (List.mem_of_mem_drop h)) k6 (.slice none 0 0) [] H5 H5 (s05.ok ok) r6.1 (grw_nil H5) (by simp)
  have m6 : CC F.rows_puts [.slice none 0 0, k6] H5 = some (.string (mk (valB kl l)), H6) := m6
  have hver : ∀ k, k < H3.n → H5.ver k = H4.ver k := fun k hk => by rw [s5.ver hk fun h => h, s4.ver hk fun h => h]
  have n3 : H.n < H3.n := Nat.lt_of_lt_of_le n1 (s2.trans s3).n
  have ck1 : okV (some true) (some H.n) H4 H5 H5 H5 = true := ZR (.inr (hver _ n3)) (.inr (Nat.le_refl _))
  have ck0 : okV (some true) none H4 H5 H5 H5 = true := okV_none (.inr (Nat.le_refl _))
  have ck2 : okV (some true) (Yk w) H4 H5 H5 H5 = true := by
    rcases hw.2 with h' | ⟨b', o, n', code, h', _, _, h3⟩
    · rw [h']; exact ck0
    · rw [h']; exact ZR (.inr (hver _ (Nat.lt_trans h3 n3))) (.inr (Nat.le_refl _))
  unfold Yk at ck2
  generalize keyB n kl l = x at m5 ⊢
  generalize valB kl l = y at m6 ⊢
  have s06 := s05.trans s6
  subst hkv hrv
  by_cases h24 : 24 < (x.length : Int)
  · rw [if_pos (Or.inl (by omega))]
    apply Yj _ (QV _ _ H) rfl
    rotate_left 2
    · simp (disch := first | with_reducible rfl | assumption | omega | rfl | (simp only [go_sem]; first | done | omega)) only [go_sem, ↓reduceIte, reduceCtorEq, Nat.reduceEqDiff, Nat.reduceAdd, Nat.reduceSub, Nat.reduceMul, Nat.reduceDiv, Nat.reduceMod, Nat.reduceLeDiff, Nat.reduceLT, Nat.reduceBEq, Int.reduceEq, Int.reduceBEq, Int.reduceBNe, Int.reduceLT, Int.reduceLE, Int.reduceAdd, Int.reduceSub, Int.reduceNeg, Int.reduceToNat, Int.reducePow, Nat.reducePow, Int.reduceMul, Int.reduceDiv, ↓Vk, hH1, f1, ↓Ya m1, Ya m1, hH2, ↓Ya m3, Ya m3, ↓Ya m4, Ya m4]
      simp (disch := first | with_reducible rfl | assumption | omega | rfl | (simp only [go_sem]; first | done | omega)) only [go_sem, ↓reduceIte, reduceCtorEq, Nat.reduceEqDiff, Nat.reduceAdd, Nat.reduceSub, Nat.reduceMul, Nat.reduceDiv, Nat.reduceMod, Nat.reduceLeDiff, Nat.reduceLT, Nat.reduceBEq, Int.reduceEq, Int.reduceBEq, Int.reduceBNe, Int.reduceLT, Int.reduceLE, Int.reduceAdd, Int.reduceSub, Int.reduceNeg, Int.reduceToNat, Int.reducePow, Nat.reducePow, Int.reduceMul, Int.reduceDiv, f3, cA, hH4, f4, lk, a5, ↓Ya m5, Ya m5]
      simp (disch := first | with_reducible rfl | assumption | omega | rfl | (simp only [go_sem]; first | done | omega)) only [go_sem, ↓reduceIte, reduceCtorEq, Nat.reduceEqDiff, Nat.reduceAdd, Nat.reduceSub, Nat.reduceMul, Nat.reduceDiv, Nat.reduceMod, Nat.reduceLeDiff, Nat.reduceLT, Nat.reduceBEq, Int.reduceEq, Int.reduceBEq, Int.reduceBNe, Int.reduceLT, Int.reduceLE, Int.reduceAdd, Int.reduceSub, Int.reduceNeg, Int.reduceToNat, Int.reducePow, Nat.reducePow, Int.reduceMul, Int.reduceDiv, f5, lk, a6, ↓Ya m6, Ya m6, ck0, ck1, ck2, YT, h24]
      rfl
    · exact s06
  by_cases h40 : 40 < (y.length : Int)
  · rw [if_pos (Or.inr (by omega))]
    apply Yj _ (QV _ _ H) rfl
    rotate_left 2
    · simp (disch := first | with_reducible rfl | assumption | omega | rfl | (simp only [go_sem]; first | done | omega)) only [go_sem, ↓reduceIte, reduceCtorEq, Nat.reduceEqDiff, Nat.reduceAdd, Nat.reduceSub, Nat.reduceMul, Nat.reduceDiv, Nat.reduceMod, Nat.reduceLeDiff, Nat.reduceLT, Nat.reduceBEq, Int.reduceEq, Int.reduceBEq, Int.reduceBNe, Int.reduceLT, Int.reduceLE, Int.reduceAdd, Int.reduceSub, Int.reduceNeg, Int.reduceToNat, Int.reducePow, Nat.reducePow, Int.reduceMul, Int.reduceDiv, ↓Vk, hH1, f1, ↓Ya m1, Ya m1, hH2, ↓Ya m3, Ya m3, ↓Ya m4, Ya m4]
      simp (disch := first | with_reducible rfl | assumption | omega | rfl | (simp only [go_sem]; first | done | omega)) only [go_sem, ↓reduceIte, reduceCtorEq, Nat.reduceEqDiff, Nat.reduceAdd, Nat.reduceSub, Nat.reduceMul, Nat.reduceDiv, Nat.reduceMod, Nat.reduceLeDiff, Nat.reduceLT, Nat.reduceBEq, Int.reduceEq, Int.reduceBEq, Int.reduceBNe, Int.reduceLT, Int.reduceLE, Int.reduceAdd, Int.reduceSub, Int.reduceNeg, Int.reduceToNat, Int.reducePow, Nat.reducePow, Int.reduceMul, Int.reduceDiv, f3, cA, hH4, f4, lk, a5, ↓Ya m5, Ya m5]
      simp (disch := first | with_reducible rfl | assumption | omega | rfl | (simp only [go_sem]; first | done | omega)) only [go_sem, ↓reduceIte, reduceCtorEq, Nat.reduceEqDiff, Nat.reduceAdd, Nat.reduceSub, Nat.reduceMul, Nat.reduceDiv, Nat.reduceMod, Nat.reduceLeDiff, Nat.reduceLT, Nat.reduceBEq, Int.reduceEq, Int.reduceBEq, Int.reduceBNe, Int.reduceLT, Int.reduceLE, Int.reduceAdd, Int.reduceSub, Int.reduceNeg, Int.reduceToNat, Int.reducePow, Nat.reducePow, Int.reduceMul, Int.reduceDiv, f5, lk, a6, ↓Ya m6, Ya m6, ck0, ck1, ck2, YT, h24, h40]
      rfl
    · exact s06
  · rw [if_neg (show ¬ (24 < x.length ∨ 40 < y.length) by omega)]
    apply Yj _ (QV _ _ H) rfl
    rotate_left 2
    · simp (disch := first | with_reducible rfl | assumption | omega | rfl | (simp only [go_sem]; first | done | omega)) only [go_sem, ↓reduceIte, reduceCtorEq, Nat.reduceEqDiff, Nat.reduceAdd, Nat.reduceSub, Nat.reduceMul, Nat.reduceDiv, Nat.reduceMod, Nat.reduceLeDiff, Nat.reduceLT, Nat.reduceBEq, Int.reduceEq, Int.reduceBEq, Int.reduceBNe, Int.reduceLT, Int.reduceLE, Int.reduceAdd, Int.reduceSub, Int.reduceNeg, Int.reduceToNat, Int.reducePow, Nat.reducePow, Int.reduceMul, Int.reduceDiv, ↓Vk, hH1, f1, ↓Ya m1, Ya m1, hH2, ↓Ya m3, Ya m3, ↓Ya m4, Ya m4]
      simp (disch := first | with_reducible rfl | assumption | omega | rfl | (simp only [go_sem]; first | done | omega)) only [go_sem, ↓reduceIte, reduceCtorEq, Nat.reduceEqDiff, Nat.reduceAdd, Nat.reduceSub, Nat.reduceMul, Nat.reduceDiv, Nat.reduceMod, Nat.reduceLeDiff, Nat.reduceLT, Nat.reduceBEq, Int.reduceEq, Int.reduceBEq, Int.reduceBNe, Int.reduceLT, Int.reduceLE, Int.reduceAdd, Int.reduceSub, Int.reduceNeg, Int.reduceToNat, Int.reducePow, Nat.reducePow, Int.reduceMul, Int.reduceDiv, f3, cA, hH4, f4, lk, a5, ↓Ya m5, Ya m5]
      simp (disch := first | with_reducible rfl | assumption | omega | rfl | (simp only [go_sem]; first | done | omega)) only [go_sem, ↓reduceIte, reduceCtorEq, Nat.reduceEqDiff, Nat.reduceAdd, Nat.reduceSub, Nat.reduceMul, Nat.reduceDiv, Nat.reduceMod, Nat.reduceLeDiff, Nat.reduceLT, Nat.reduceBEq, Int.reduceEq, Int.reduceBEq, Int.reduceBNe, Int.reduceLT, Int.reduceLE, Int.reduceAdd, Int.reduceSub, Int.reduceNeg, Int.reduceToNat, Int.reducePow, Nat.reducePow, Int.reduceMul, Int.reduceDiv, f5, lk, a6, ↓Ya m6, Ya m6, ck0, ck1, ck2, YT, h24, h40]
      rfl
    · exact s06
end Go.Proofs.YtmiinbhnfojnbaaDoor

set_option maxRecDepth 10000
namespace Go.Proofs.YtmiinbhnfojnbaaDoor
open Go Eng
def rowR (n : Int) (kl rl : List Int) (l : List Cl) : List UInt8 × List UInt8 × Int :=
  if rowOk n kl rl l = true then (if 24 < (keyB n kl l).length ∨ 40 < (valB kl l).length then ([], [], 5) else (keyB n kl l, valB kl l, 0)) else ([], [], 2)
theorem q_Row' (n : Int) (kv rv : Value) (kl rl : List Int) (l : List Cl) (w : Value) (H : AHeap) (ok : OkH H) (hk : KR H kv kl) (hr : KR H rv rl) (hw : CR H w l) (hl : l.length ≤ 100) (hc : ∀ c ∈ l, XK c) :
    CC F.rows_Row [tbV n kv rv, w] H = some (.tuple #[.string (mk (rowR n kl rl l).1), .string (mk (rowR n kl rl l).2.1), .int .i64 (rowR n kl rl l).2.2], H) := by
  rw [q_Row n kv rv kl rl l w H ok hk hr hw hl hc]
  unfold rowR
  split
  · split <;> rfl
  · rfl
end Go.Proofs.YtmiinbhnfojnbaaDoor
