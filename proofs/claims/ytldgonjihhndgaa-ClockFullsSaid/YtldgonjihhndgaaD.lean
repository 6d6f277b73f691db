/-
  Chapter 02: slices.Clone, Insert and Delete over alarms.
  Conditions: none. By an AI agent.
-/
import Derived.Test.YtldgonjihhndgaaC
import Derived.Test.YtldgonjihhndgaaEng25
set_option maxRecDepth 10000
set_option linter.unusedSimpArgs false
set_option linter.unusedVariables false
namespace Go.Proofs.Ytldgonjihhndgaa
open Go Eng

theorem q_clone (l : List Al) (v : Value) (H : AHeap) (hr : Rd EAl H v l) (hl : l.length ≤ 8796093022207) :
    ∃ v' H', CC F.slices_Clone_alarm [v] H = some (v', H') ∧ Own EAl H' T.clock_alarm v' l ∧ Still H H' ∧ ∀ b, blockOf v' = some b → H.n ≤ b := by
  have hsrc : ∀ H1, Still H H1 → srcS 2 v H1 = some (l.length, EAl.cells l) := fun H1 h => (hr.still h).src rfl
  have s1 : Still H (H.push (.cells [] T.clock_alarm true)) := (Fr.refl H).push _
  have hs := hsrc _ s1
  by_cases hn : v = .slice none 0 0
  · have hl0 : l = [] := by
      rcases hr with h | h | ⟨b, o, c, h, _⟩
      · exact h.1
      · exact h.1
      · rw [hn] at h; cases h
    subst hn hl0
    refine ⟨.slice none 0 0, H, ?_, .inl ⟨rfl, rfl⟩, Fr.refl H, fun b h => by cases h⟩
    apply pure_of _ (d_slices_Clone_alarm _ H) rfl
    rotate_left 2
    · simp (disch := first | with_reducible rfl | assumption | omega | rfl | (simp only [go_sem]; first | done | omega)) only [go_sem, ↓reduceIte, reduceCtorEq, Nat.reduceEqDiff, Nat.reduceAdd, Nat.reduceSub, Nat.reduceMul, Nat.reduceDiv, Nat.reduceMod, Nat.reduceLeDiff, Nat.reduceLT, Nat.reduceBEq, Int.reduceEq, Int.reduceBEq, Int.reduceBNe, Int.reduceLT, Int.reduceLE, Int.reduceAdd, Int.reduceSub, Int.reduceNeg, Int.reduceToNat, Int.reducePow, Nat.reducePow, Int.reduceMul, Int.reduceDiv, ↓s_slices_Clone_alarm]
      rfl
    · (repeat (first | exact Fr.refl _ | refine Fr.push ?_ _ | refine Fr.set ?_ _ _ (by intro h; simp only [go_sem] at h; omega)))
  · obtain ⟨a, n, c, hv⟩ : ∃ a n c, v = .slice (some a) n c := by
      rcases hr with h | ⟨_, a, k, h, _⟩ | ⟨b, o, c, h, _⟩
      · exact absurd h.2 hn
      · exact ⟨_, _, _, h⟩
      · exact ⟨_, _, _, h⟩
    have hnil : ∀ ox oy, xbin Try.prog .eql T.sl_clock_alarm ox oy v (.slice none 0 0) = some (.bool false) := fun ox oy => by rw [hv]; exact sl_some_eq
    have ho : Own EAl (H.push (.cells [] T.clock_alarm true)) T.clock_alarm (.slice (some ⟨H.n, 0, none⟩) 0 0) [] := .inr (.inl ⟨rfl, _, rfl, rfl, by simp⟩)
    by_cases hl0 : l = []
    · subst hl0
      refine ⟨.slice (some ⟨H.n, 0, none⟩) 0 0, H.push (.cells [] T.clock_alarm true), ?_, ho, s1, fun b h => by cases h; exact Nat.le_refl _⟩
      have happ : app T.clock_alarm 2 16 (.slice (some ⟨H.n, 0, none⟩) 0 0) (srcS 2 v (H.push (.cells [] T.clock_alarm true))) (H.push (.cells [] T.clock_alarm true)) = some (.slice (some ⟨H.n, 0, none⟩) 0 0, H.push (.cells [] T.clock_alarm true)) := by rw [hs]; rfl
      refine (d_slices_Clone_alarm _ H ?_).trans (congrArg some (tidy_mem (v := .slice (some ⟨H.n, 0, none⟩) 0 0) (H' := H.push (.cells [] T.clock_alarm true)) rfl))
      simp (disch := first | with_reducible rfl | assumption | omega | rfl | (simp only [go_sem]; first | done | omega)) only [go_sem, ↓reduceIte, reduceCtorEq, Nat.reduceEqDiff, Nat.reduceAdd, Nat.reduceSub, Nat.reduceMul, Nat.reduceDiv, Nat.reduceMod, Nat.reduceLeDiff, Nat.reduceLT, Nat.reduceBEq, Int.reduceEq, Int.reduceBEq, Int.reduceBNe, Int.reduceLT, Int.reduceLE, Int.reduceAdd, Int.reduceSub, Int.reduceNeg, Int.reduceToNat, Int.reducePow, Nat.reducePow, Int.reduceMul, Int.reduceDiv, ↓s_slices_Clone_alarm, hnil, happ]
    · obtain ⟨v', H', happ, hown, hfr, hb, hg⟩ := ho.app (m := l) hl0 (sz := 2) (bytes := 16) rfl (by simp; omega) (by simp; omega) hs
      refine ⟨v', H', ?_, hown, ?_, ?_⟩
      · refine (d_slices_Clone_alarm _ H ?_).trans (congrArg some (tidy_mem (v := v') (H' := H') hg))
        simp (disch := first | with_reducible rfl | assumption | omega | rfl | (simp only [go_sem]; first | done | omega)) only [go_sem, ↓reduceIte, reduceCtorEq, Nat.reduceEqDiff, Nat.reduceAdd, Nat.reduceSub, Nat.reduceMul, Nat.reduceDiv, Nat.reduceMod, Nat.reduceLeDiff, Nat.reduceLT, Nat.reduceBEq, Int.reduceEq, Int.reduceBEq, Int.reduceBNe, Int.reduceLT, Int.reduceLE, Int.reduceAdd, Int.reduceSub, Int.reduceNeg, Int.reduceToNat, Int.reducePow, Nat.reducePow, Int.reduceMul, Int.reduceDiv, ↓s_slices_Clone_alarm, hnil, happ]
      · refine s1.then hfr fun b hb h => ?_
        unfold OnlyOf at h
        simp [blockOf] at h
        omega
      · intro b h
        rcases hb with hb | hb
        · rw [hb] at h
          simp [blockOf] at h
          omega
        · rw [hb] at h
          simp at h
          omega

/-! ### Insert -/
theorem ins_loop : noLoop (codeOf Try.prog hints F.slices_Insert_alarm) = true := by kernel_rfl

theorem q_insert (l : List Al) (v : Value) (a : Al) (bv i : Nat) (H : AHeap) (hr : Own EAl H T.clock_alarm v l) (hl : l.length ≤ 8796093022206) (hi : i ≤ l.length) (hbn : bv < H.n) (hbv : H.f bv = .cells [.int .i64 a.id, .int .i64 a.tm] T.clock_alarm true) (hne : blockOf v ≠ some bv) :
    ∃ v' H', CC F.slices_Insert_alarm [v, .int .i64 (i : Int), .slice (some ⟨bv, 0, none⟩) 1 2] H = some (v', H') ∧ Own EAl H' T.clock_alarm v' (l.take i ++ a :: l.drop i) ∧ Fr (OnlyOf v) H H' ∧
      (blockOf v' = blockOf v ∨ ∃ b, blockOf v' = some b ∧ H.n ≤ b) := by
  have hp : prims1 F.slices_Insert_alarm = some (insP Try.prog hints 31 62 zAlarm) := by kernel_rfl
  have hsrc : srcS 2 (.slice (some ⟨bv, 0, none⟩) 1 2) H = some ([a].length, EAl.cells [a]) := by
    unfold srcS
    simp only [cut_b, hbv, Nat.one_ne_zero, if_false]
    rfl
  by_cases hin : i = l.length
  · subst hin
    obtain ⟨v', H', happ, hown, hfr, hb, hg⟩ := hr.app (m := [a]) (by simp) (sz := 2) (bytes := 16) rfl (by simp; omega) (by simp; omega) hsrc
    obtain ⟨w, hw, _, _⟩ := hr.drop (sz := 2) (q := .i64) rfl (Nat.le_refl l.length)
    have hlen := hr.rd.lenS
    refine ⟨v', H', ?_, by simpa using hown, hfr, hb.imp id fun h => ⟨_, h, Nat.le_refl _⟩⟩
    refine D_prim hp ?_
    have hbody : dBody Try.prog hints (fun _ _ _ => none) 1 F.slices_Insert_alarm [v, .int .i64 (l.length : Int), .slice (some ⟨bv, 0, none⟩) 1 2] H = some (v', H') := by
      rw [dBody_noLoop ins_loop, s_slices_Insert_alarm_eq]
      show s_slices_Insert_alarm guardK condL shareL Try.prog _ _ _ _ H _ = _
      simp (disch := first | with_reducible rfl | assumption | omega | rfl | (simp only [go_sem]; first | done | omega)) only [go_sem, ↓reduceIte, reduceCtorEq, Nat.reduceEqDiff, Nat.reduceAdd, Nat.reduceSub, Nat.reduceMul, Nat.reduceDiv, Nat.reduceMod, Nat.reduceLeDiff, Nat.reduceLT, Nat.reduceBEq, Int.reduceEq, Int.reduceBEq, Int.reduceBNe, Int.reduceLT, Int.reduceLE, Int.reduceAdd, Int.reduceSub, Int.reduceNeg, Int.reduceToNat, Int.reducePow, Nat.reducePow, Int.reduceMul, Int.reduceDiv, ↓s_slices_Insert_alarm, hw, hlen, happ]
    show (match dBody Try.prog hints (fun _ _ _ => none) 1 F.slices_Insert_alarm [v, .int .i64 (l.length : Int), .slice (some ⟨bv, 0, none⟩) 1 2] H with
      | some r => some r
      | none => _) = _
    rw [hbody]
  · have hilt : i < l.length := by omega
    rcases hr with ⟨h, _⟩ | ⟨h, _⟩ | ⟨b, o, c, xs, rfl, hlc, hb, hf, ho, hx⟩
    · subst h; simp at hilt
    · subst h; simp at hilt
    · have hneb : bv ≠ b := fun h => hne (by rw [h]; rfl)
      obtain ⟨v', H', hins, hown, hfr, hbl⟩ := insS_own (P := Try.prog) (E := EAl) (l := l) (el := T.clock_alarm) (z := zAlarm) (b := b) (o := o) (c := c) (i := i) (bv := bv) (ov := 0) (cv := 2) (m := [a]) rfl rfl hlc hb hf ho hx hilt (by simp) hbv hneb (by kernel_rfl) (show 0 + 1 * 2 ≤ 2 by decide) rfl
        (by rw [show Try.prog.bytesOf T.clock_alarm = 16 by kernel_rfl]; simp; omega) (by simp; omega)
      refine ⟨v', H', ?_, hown, hfr.mono fun x _ h => by rw [h]; rfl, hbl.imp id fun h => ⟨_, h, Nat.le_refl _⟩⟩
      refine D_prim hp ?_
      have hlo : slS T.clock_alarm 2 (.slice (some ⟨b, o, none⟩) l.length (2 * c + 1)) (some (.int .i64 (i : Int))) none none H = some (.slice (some ⟨b, o + i * 2, none⟩) (l.length - i) (2 * (c - i) + 1)) := sl_lo hf hi hlc
      have hne' : ¬ (i : Int) = (l.length : Int) := by omega
      have hbody : dBody Try.prog hints (fun _ _ _ => none) 1 F.slices_Insert_alarm [.slice (some ⟨b, o, none⟩) l.length (2 * c + 1), .int .i64 (i : Int), .slice (some ⟨bv, 0, none⟩) 1 2] H = none := by
        rw [dBody_noLoop ins_loop, s_slices_Insert_alarm_eq]
        show s_slices_Insert_alarm guardK condL shareL Try.prog _ _ _ _ H _ = _
        simp (disch := first | with_reducible rfl | assumption | omega | rfl | (simp only [go_sem]; first | done | omega)) only [go_sem, ↓reduceIte, reduceCtorEq, Nat.reduceEqDiff, Nat.reduceAdd, Nat.reduceSub, Nat.reduceMul, Nat.reduceDiv, Nat.reduceMod, Nat.reduceLeDiff, Nat.reduceLT, Nat.reduceBEq, Int.reduceEq, Int.reduceBEq, Int.reduceBNe, Int.reduceLT, Int.reduceLE, Int.reduceAdd, Int.reduceSub, Int.reduceNeg, Int.reduceToNat, Int.reducePow, Nat.reducePow, Int.reduceMul, Int.reduceDiv, ↓s_slices_Insert_alarm, hlo, hne', cap_odd]
      show (match dBody Try.prog hints (fun _ _ _ => none) 1 F.slices_Insert_alarm [.slice (some ⟨b, o, none⟩) l.length (2 * c + 1), .int .i64 (i : Int), .slice (some ⟨bv, 0, none⟩) 1 2] H with
        | some r => some r
        | none => _) = _
      rw [hbody]
      exact hins

/-! ### Delete -/
theorem zrow_alarm : zrow Try.prog T.clock_alarm = some [.int .i64 0, .int .i64 0] := by kernel_rfl
theorem clear_eq {b o n c : Nat} {H : AHeap} (hn : n ≠ 0) : xclear Try.prog [T.sl_clock_alarm] (.slice (some ⟨b, o, none⟩) n c) H = (setB H b (wrL (H.f b) o (zeros [.int .i64 0, .int .i64 0] n))).map fun H' => (.tuple #[], H') := by
  have h : Try.prog.underlying T.sl_clock_alarm = some (.slice T.clock_alarm) := Try.underlying51
  unfold xclear
  simp only [h, hn, if_false, zrow_alarm, Option.bind_some, stL_b]

theorem q_delete (l : List Al) (v : Value) (i : Nat) (H : AHeap) (hr : Own EAl H T.clock_alarm v l) (hl : l.length ≤ 8796093022206) (hi : i < l.length) :
    ∃ v' H', CC F.slices_Delete_alarm [v, .int .i64 (i : Int), .int .i64 ((i : Int) + 1)] H = some (v', H') ∧ Own EAl H' T.clock_alarm v' (l.take i ++ l.drop (i + 1)) ∧ Fr (OnlyOf v) H H' ∧ blockOf v' = blockOf v := by
  rcases hr with ⟨h, _⟩ | ⟨h, _⟩ | ⟨b, o, c, xs, rfl, hlc, hb, hf, ho, hx⟩
  · subst h; simp at hi
  · subst h; simp at hi
  · have hw : EAl.w = 2 := rfl
    rw [hw] at ho hx
    have hne : ¬ (i : Int) = (i : Int) + 1 := by omega
    have hmul : l.length * 2 ≤ c * 2 := Nat.mul_le_mul_right _ hlc
    have e1 : slS T.clock_alarm 2 (.slice (some ⟨b, o, none⟩) l.length (2 * c + 1)) (some (.int .i64 (i : Int))) (some (.int .i64 ((i : Int) + 1))) (some (.int .i64 (l.length : Int))) H = some (.slice (some ⟨b, if l.length = i then o else o + i * 2, none⟩) (i + 1 - i) (2 * (l.length - i))) :=
      sl_three (H := H) (e := T.clock_alarm) (sz := 2) (i := i) (j := i + 1) (by omega) hi hlc
    have e2 : slS T.clock_alarm 2 (.slice (some ⟨b, o, none⟩) l.length (2 * c + 1)) none (some (.int .i64 (i : Int))) none H = some (.slice (some ⟨b, o, none⟩) i (2 * c + 1)) := sl_hi hf (by omega)
    have e3 : slS T.clock_alarm 2 (.slice (some ⟨b, o, none⟩) l.length (2 * c + 1)) (some (.int .i64 ((i : Int) + 1))) none none H = some (.slice (some ⟨b, o + (i + 1) * 2, none⟩) (l.length - (i + 1)) (2 * (c - (i + 1)) + 1)) :=
      sl_lo (H := H) (e := T.clock_alarm) (sz := 2) (i := i + 1) hf hi hlc
    -- what is appended
    obtain ⟨ys, hys, e4⟩ : ∃ ys, ys = spl xs (o + i * 2) (EAl.cells (l.drop (i + 1))) ∧ app T.clock_alarm 2 16 (.slice (some ⟨b, o, none⟩) i (2 * c + 1)) (srcS 2 (.slice (some ⟨b, o + (i + 1) * 2, none⟩) (l.length - (i + 1)) (2 * (c - (i + 1)) + 1)) H) H =
        some (.slice (some ⟨b, o, none⟩) (l.length - 1) (2 * c + 1), if l.length = i + 1 then H else H.set b (.cells ys T.clock_alarm true)) := by
      refine ⟨_, rfl, ?_⟩
      have hsrc : srcS 2 (.slice (some ⟨b, o + (i + 1) * 2, none⟩) (l.length - (i + 1)) (2 * (c - (i + 1)) + 1)) H = some (l.length - (i + 1), EAl.cells (l.drop (i + 1))) := by
        unfold srcS
        by_cases h0 : l.length - (i + 1) = 0
        · rw [List.drop_eq_nil_of_le (by omega)]
          simp only [h0, if_true]
          rfl
        · simp only [h0, if_false, cut_b, hf]
          have hd : (xs.drop (o + (i + 1) * 2)).take ((l.length - (i + 1)) * 2) = EAl.cells (l.drop (i + 1)) := by
            have := EAl.cells_drop l (i + 1)
            rw [hw] at this
            rw [← this, ← hx, List.drop_take, List.drop_drop, Nat.sub_mul]
          rw [cutB_c (by omega), hd]
          rfl
      rw [hsrc]
      by_cases h0 : l.length = i + 1
      · rw [if_pos h0]
        unfold app
        simp only [Option.bind_some, show l.length - (i + 1) = 0 by omega, if_true]
        rw [show l.length - 1 = i by omega]
      · rw [if_neg h0]
        unfold app
        have hlen : (EAl.cells (l.drop (i + 1))).length = (l.length - (i + 1)) * 2 := by rw [EAl.cells_len, List.length_drop, hw]
        simp only [Option.bind_some, show ¬ l.length - (i + 1) = 0 by omega, if_false, show ¬ ((i + (l.length - (i + 1))) * 16 > 140737488355328 ∨ i + (l.length - (i + 1)) > 140737488355328) by omega, show i + (l.length - (i + 1)) ≤ (2 * c + 1) / 2 by omega, if_true, stL_b, hf]
        rw [wrL_c (by rw [hlen]; omega) (EAl.cells_one _), setB_s]
        simp only [Option.map_some]
        rw [show i + (l.length - (i + 1)) = l.length - 1 by omega]
    have hysl : ys.length = xs.length := by rw [hys, spl_length]
    generalize hH1 : (if l.length = i + 1 then H else H.set b (.cells ys T.clock_alarm true)) = H1 at e4
    obtain ⟨zs, hzs, hzl, f1⟩ : ∃ zs, (zs = ys) ∧ zs.length = xs.length ∧ H1.f b = .cells zs T.clock_alarm true := by
      rw [← hH1]
      by_cases h0 : l.length = i + 1
      · rw [if_pos h0]
        refine ⟨xs, ?_, rfl, hf⟩
        rw [hys, List.drop_eq_nil_of_le (by omega)]
        rfl
      · rw [if_neg h0]
        exact ⟨ys, rfl, hysl, set_f_eq⟩
    subst hzs
    have fr1 : Fr (OnlyOf (.slice (some ⟨b, o, none⟩) l.length (2 * c + 1))) H H1 := by
      rw [← hH1]
      split
      · exact Fr.refl _
      · exact Fr.set (Fr.refl _) _ _ fun _ => rfl
    have e5 : slS T.clock_alarm 2 (.slice (some ⟨b, o, none⟩) (l.length - 1) (2 * c + 1)) (some (.int .i64 ((l.length - 1 : Nat) : Int))) (some (.int .i64 (l.length : Int))) none H1 = some (.slice (some ⟨b, o + (l.length - 1) * 2, none⟩) (l.length - (l.length - 1)) (2 * (c - (l.length - 1)) + 1)) := sl_lohi f1 (by omega) hlc
    have e6 : l.length - (l.length - 1) = 1 := by omega
    have hn1 : b < H1.n := Nat.lt_of_lt_of_le hb fr1.n
    refine ⟨.slice (some ⟨b, o, none⟩) (l.length - 1) (2 * c + 1), H1.set b (.cells (spl zs (o + (l.length - 1) * 2) [.int .i64 0, .int .i64 0]) T.clock_alarm true), ?_, ?_, Fr.set fr1 _ _ fun _ => rfl, rfl⟩
    · refine (d_slices_Delete_alarm _ _ _ H (r := (.slice (some ⟨b, o, none⟩) (l.length - 1) (2 * c + 1), _)) ?_).trans (congrArg some (tidy_mem rfl))
      simp (disch := first | with_reducible rfl | assumption | omega | rfl | (simp only [go_sem]; first | done | omega)) only [go_sem, ↓reduceIte, reduceCtorEq, Nat.reduceEqDiff, Nat.reduceAdd, Nat.reduceSub, Nat.reduceMul, Nat.reduceDiv, Nat.reduceMod, Nat.reduceLeDiff, Nat.reduceLT, Nat.reduceBEq, Int.reduceEq, Int.reduceBEq, Int.reduceBNe, Int.reduceLT, Int.reduceLE, Int.reduceAdd, Int.reduceSub, Int.reduceNeg, Int.reduceToNat, Int.reducePow, Nat.reducePow, Int.reduceMul, Int.reduceDiv, ↓s_slices_Delete_alarm, e1, hne, e2, e3, e4]
      rw [e5, e6]
      simp (disch := first | with_reducible rfl | assumption | omega | rfl | (simp only [go_sem]; first | done | omega)) only [go_sem, ↓reduceIte, reduceCtorEq, Nat.reduceEqDiff, Nat.reduceAdd, Nat.reduceSub, Nat.reduceMul, Nat.reduceDiv, Nat.reduceMod, Nat.reduceLeDiff, Nat.reduceLT, Nat.reduceBEq, Int.reduceEq, Int.reduceBEq, Int.reduceBNe, Int.reduceLT, Int.reduceLE, Int.reduceAdd, Int.reduceSub, Int.reduceNeg, Int.reduceToNat, Int.reducePow, Nat.reducePow, Int.reduceMul, Int.reduceDiv, clear_eq, f1]
    · have hlen2 : (l.take i ++ l.drop (i + 1)).length = l.length - 1 := by simp; omega
      refine .inr (.inr ⟨b, o, c, _, by rw [hlen2], by rw [hlen2]; omega, by simpa using hn1, set_f_eq, by rw [spl_length, hzl, hw, ho], ?_⟩)
      rw [hys]
      have := del_cells (E := EAl) (xs := xs) (z := [.int .i64 0, .int .i64 0]) (o := o) (i := i) rfl hi (by rw [hw]; omega) (by rw [hw]; exact hx)
      exact this

end Go.Proofs.Ytldgonjihhndgaa
