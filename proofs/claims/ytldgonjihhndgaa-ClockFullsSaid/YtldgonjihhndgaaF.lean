/-
  Chapter 02: the clock's methods.
  Conditions: none. By an AI agent.
-/
import Derived.Test.YtldgonjihhndgaaD
set_option maxRecDepth 10000
set_option linter.unusedSimpArgs false
set_option linter.unusedVariables false
namespace Go.Proofs.Ytldgonjihhndgaa
open Go Eng

/-- A slice whose block, if it has one, is new. -/
def New (H : AHeap) (v : Value) : Prop := ∀ b, blockOf v = some b → H.n ≤ b

theorem l_out (l : List Al) (v : Value) (H : AHeap) (hr : Rd EAl H v l) (hl : l.length ≤ 8796093022206) : ∀ (m : List Al) (i : Nat) (v3 : Value) (Hc : AHeap), l.drop i = m → i ≤ l.length →
    Own EAl Hc T.api_Alarm v3 (l.take i) → Still H Hc → New H v3 →
    ∃ v' H', (∀ K : K, l_clock_out_0 v3 v (.int .i64 l.length) (.int .i64 i) Hc K = K (.exit 0) [(9, .bool false), (3, v'), (6, v), (7, .int .i64 l.length), (8, .int .i64 l.length)] H') ∧ Own EAl H' T.api_Alarm v' l ∧ Still H H' ∧ New H v'
  | [], i, v3, Hc, hm, hi, ho, hs, hn => by
    have h : i = l.length := Nat.le_antisymm hi (List.drop_eq_nil_iff.1 hm)
    subst h
    have hlt : ¬ (l.length : Int) < (l.length : Int) := by omega
    refine ⟨v3, Hc, fun K => ?_, by rwa [List.take_length] at ho, hs, hn⟩
    rw [r_clock_out_0]
    simp (disch := first | with_reducible rfl | assumption | omega | rfl | (simp only [go_sem]; first | done | omega)) only [go_sem, ↓reduceIte, reduceCtorEq, Nat.reduceEqDiff, Nat.reduceAdd, Nat.reduceSub, Nat.reduceMul, Nat.reduceDiv, Nat.reduceMod, Nat.reduceLeDiff, Nat.reduceLT, Nat.reduceBEq, Int.reduceEq, Int.reduceBEq, Int.reduceBNe, Int.reduceLT, Int.reduceLE, Int.reduceAdd, Int.reduceSub, Int.reduceNeg, Int.reduceToNat, Int.reducePow, Nat.reducePow, Int.reduceMul, Int.reduceDiv, ↓s_clock_out_b0, hlt]
  | a :: m, i, v3, Hc, hm, hi, ho, hs, hn => by
    have h : i < l.length := by
      rcases Nat.lt_or_ge i l.length with h | h
      · exact h
      · rw [List.drop_eq_nil_of_le h] at hm; cases hm
    have hlt : (i : Int) < (l.length : Int) := by omega
    have ha : l[i] = a := by rw [List.drop_eq_getElem_cons h] at hm; exact (List.cons.inj hm).1
    have hm' : l.drop (i + 1) = m := by rw [List.drop_eq_getElem_cons h] at hm; exact (List.cons.inj hm).2
    obtain ⟨b, o, hix, hb, hc, _⟩ := (hr.still hs).ix (q := .i64) h
    rw [ha] at hc
    have hix : ixS 2 v (.int .i64 i) = some (.pointer (some ⟨b, o, none⟩)) := hix
    have hc : cutB (Hc.f b) o 2 = some [.int .i64 a.id, .int .i64 a.tm] := hc
    let H1 : AHeap := (Hc.push (.cells [.int .i64 0, .int .i64 0] T.clock_alarm true)).set Hc.n (.cells [.int .i64 a.id, .int .i64 a.tm] T.clock_alarm true)
    let H2 : AHeap := H1.push (.cells [.int .i64 a.id, .int .i64 a.tm] T.api_Alarm true)
    have s1 : Still Hc H1 := by
      refine Fr.set (Fr.push (Fr.refl _) _) _ _ ?_
      intro h; omega
    have s2 : Still Hc H2 := s1.push _
    have hsrc : srcS 2 (.slice (some ⟨Hc.n + 1, 0, none⟩) 1 2) H2 = some ([a].length, EAl.cells [a]) := by
      unfold srcS
      simp only [cut_b, Nat.one_ne_zero, if_false]
      rw [show H2.f (Hc.n + 1) = .cells [.int .i64 a.id, .int .i64 a.tm] T.api_Alarm true from push_f_eq rfl]
      rfl
    have htl : (l.take i).length = i := by simp; omega
    obtain ⟨v4, H3, happ, hown, hfr, hbl, _⟩ := (ho.still s2).app (m := [a]) (by simp) (sz := 2) (bytes := 16) rfl (by simp; omega) (by simp; omega) hsrc
    have htake : l.take i ++ [a] = l.take (i + 1) := by rw [List.take_succ_eq_append_getElem h, ha]
    rw [htake] at hown
    have s3 : Still H H3 := (hs.then s2 fun _ _ h => h).then hfr fun c hc h => by
      have := hn c h
      omega
    have hn4 : New H v4 := by
      intro c h
      rcases hbl with h' | h'
      · exact hn c (h' ▸ h)
      · rw [h'] at h
        cases h
        have := hs.n
        have := s2.n
        omega
    obtain ⟨v', H', hloop, r1, r2, r3⟩ := l_out l v H hr hl m (i + 1) v4 H3 hm' h hown s3 hn4
    refine ⟨v', H', fun K => ?_, r1, r2, r3⟩
    rw [← hloop K, r_clock_out_0]
    have happ : app T.api_Alarm 2 16 v3 (srcS 2 (.slice (some ⟨Hc.n + 1, 0, none⟩) 1 2) (((Hc.push (.cells [.int .i64 0, .int .i64 0] T.clock_alarm true)).set Hc.n (.cells [.int .i64 a.id, .int .i64 a.tm] T.clock_alarm true)).push (.cells [.int .i64 a.id, .int .i64 a.tm] T.api_Alarm true)))
      (((Hc.push (.cells [.int .i64 0, .int .i64 0] T.clock_alarm true)).set Hc.n (.cells [.int .i64 a.id, .int .i64 a.tm] T.clock_alarm true)).push (.cells [.int .i64 a.id, .int .i64 a.tm] T.api_Alarm true)) = some (v4, H3) := happ
    simp (disch := first | with_reducible rfl | assumption | omega | rfl | (simp only [go_sem]; first | done | omega)) only [go_sem, ↓reduceIte, reduceCtorEq, Nat.reduceEqDiff, Nat.reduceAdd, Nat.reduceSub, Nat.reduceMul, Nat.reduceDiv, Nat.reduceMod, Nat.reduceLeDiff, Nat.reduceLT, Nat.reduceBEq, Int.reduceEq, Int.reduceBEq, Int.reduceBNe, Int.reduceLT, Int.reduceLE, Int.reduceAdd, Int.reduceSub, Int.reduceNeg, Int.reduceToNat, Int.reducePow, Nat.reducePow, Int.reduceMul, Int.reduceDiv, ↓s_clock_out_b0, hlt, hix, hc, happ]

theorem q_out (l : List Al) (v : Value) (H : AHeap) (hr : Rd EAl H v l) (hl : l.length ≤ 8796093022206) :
    ∃ v' H', CC F.clock_out [v] H = some (v', H') ∧ Own EAl H' T.api_Alarm v' l ∧ Still H H' ∧ New H v' := by
  obtain ⟨v', H', hloop, r1, r2, r3⟩ := l_out l v H hr hl l 0 (.slice none 0 0) H (by simp) (by omega) (.inl ⟨by simp, rfl⟩) (Fr.refl _) (fun b h => by cases h)
  have hlen := hr.lenS
  have hs : s_clock_out guardK condL shareL Try.prog CC l_clock_out_0 v H (endK Try.prog [.tmp 2]) = some (v', H') := by
    simp (disch := first | with_reducible rfl | assumption | omega | rfl | (simp only [go_sem]; first | done | omega)) only [go_sem, ↓reduceIte, reduceCtorEq, Nat.reduceEqDiff, Nat.reduceAdd, Nat.reduceSub, Nat.reduceMul, Nat.reduceDiv, Nat.reduceMod, Nat.reduceLeDiff, Nat.reduceLT, Nat.reduceBEq, Int.reduceEq, Int.reduceBEq, Int.reduceBNe, Int.reduceLT, Int.reduceLE, Int.reduceAdd, Int.reduceSub, Int.reduceNeg, Int.reduceToNat, Int.reducePow, Nat.reducePow, Int.reduceMul, Int.reduceDiv, ↓s_clock_out, hlen]
    rw [show Value.int IntKind.i64 0 = Value.int IntKind.i64 ((0 : Nat) : Int) from rfl, hloop]
    simp (disch := first | with_reducible rfl | assumption | omega | rfl | (simp only [go_sem]; first | done | omega)) only [go_sem, ↓reduceIte, reduceCtorEq, Nat.reduceEqDiff, Nat.reduceAdd, Nat.reduceSub, Nat.reduceMul, Nat.reduceDiv, Nat.reduceMod, Nat.reduceLeDiff, Nat.reduceLT, Nat.reduceBEq, Int.reduceEq, Int.reduceBEq, Int.reduceBNe, Int.reduceLT, Int.reduceLE, Int.reduceAdd, Int.reduceSub, Int.reduceNeg, Int.reduceToNat, Int.reducePow, Nat.reducePow, Int.reduceMul, Int.reduceDiv]
  have hd := d_clock_out v H hs
  unfold tidy at hd
  split at hd
  · rename_i hg
    simp only [Bool.and_eq_true] at hg
    -- the result names no memory: it is nil
    refine ⟨v', H, hd, ?_, Fr.refl _, r3⟩
    rcases r1 with h | ⟨_, a, h, _⟩ | ⟨b, o, c, xs, h, _⟩
    · exact .inl h
    · rw [h] at hg; exact absurd hg.1 (by simp [gr])
    · rw [h] at hg; exact absurd hg.1 (by simp [gr])
  · exact ⟨v', H', hd, r1, r2, r3⟩

/-! ### The clock -/

def Clk (H : AHeap) (b : Nat) (now : Int) (l : List Al) : Prop :=
  ∃ v, H.f b = .cells [.bool true, .int .i64 now, v] T.clock_Clock true ∧ b < H.n ∧ Own EAl H T.clock_alarm v l ∧ blockOf v ≠ some b

def Ok (H : AHeap) : Prop := ∀ b, H.ver b < H.clk

theorem Clk.keep {H H' : AHeap} {S : Nat → Prop} {b : Nat} {now : Int} {l : List Al} (r : Clk H b now l) (h : Fr S H H') (hb : ¬ S b) (hv : ∀ v, H.f b = .cells [.bool true, .int .i64 now, v] T.clock_Clock true → Off S v) : Clk H' b now l := by
  obtain ⟨v, h1, h2, h3, h4⟩ := r
  exact ⟨v, by rw [h.f h2 hb]; exact h1, Nat.lt_of_lt_of_le h2 h.n, h3.keep h (hv v h1), h4⟩
theorem Clk.still {H H' : AHeap} {b : Nat} {now : Int} {l : List Al} (r : Clk H b now l) (h : Still H H') : Clk H' b now l := r.keep h (fun h => h) fun _ _ _ _ h => h

theorem q_New_bad (now : Int) (H : AHeap) (h : isTick now = false) : CC F.clock_New [.int .i64 now] H = some (.tuple #[.pointer none, .int .i64 2], H) := by
  apply pure_of _ (d_clock_New _ H) rfl
  rotate_left 2
  · simp (disch := first | with_reducible rfl | assumption | omega | rfl | (simp only [go_sem]; first | done | omega)) only [go_sem, ↓reduceIte, reduceCtorEq, Nat.reduceEqDiff, Nat.reduceAdd, Nat.reduceSub, Nat.reduceMul, Nat.reduceDiv, Nat.reduceMod, Nat.reduceLeDiff, Nat.reduceLT, Nat.reduceBEq, Int.reduceEq, Int.reduceBEq, Int.reduceBNe, Int.reduceLT, Int.reduceLE, Int.reduceAdd, Int.reduceSub, Int.reduceNeg, Int.reduceToNat, Int.reducePow, Nat.reducePow, Int.reduceMul, Int.reduceDiv, ↓s_clock_New, e_clock_tick, h]
    rfl
  · (repeat (first | exact Fr.refl _ | refine Fr.push ?_ _ | refine Fr.set ?_ _ _ (by intro h; simp only [go_sem] at h; omega)))

theorem q_New (now : Int) (H : AHeap) (h : isTick now = true) : ∃ H', CC F.clock_New [.int .i64 now] H = some (.tuple #[.pointer (some ⟨H.n, 0, none⟩), .int .i64 0], H') ∧ Clk H' H.n now [] ∧ Still H H' := by
  refine ⟨H.push (.cells [.bool true, .int .i64 now, .slice none 0 0] T.clock_Clock true), (d_clock_New _ H (r := (.tuple #[.pointer (some ⟨H.n, 0, none⟩), .int .i64 0], _)) ?_).trans (congrArg some (tidy_mem rfl)), ?_, (Fr.refl _).push _⟩
  · simp (disch := first | with_reducible rfl | assumption | omega | rfl | (simp only [go_sem]; first | done | omega)) only [go_sem, ↓reduceIte, reduceCtorEq, Nat.reduceEqDiff, Nat.reduceAdd, Nat.reduceSub, Nat.reduceMul, Nat.reduceDiv, Nat.reduceMod, Nat.reduceLeDiff, Nat.reduceLT, Nat.reduceBEq, Int.reduceEq, Int.reduceBEq, Int.reduceBNe, Int.reduceLT, Int.reduceLE, Int.reduceAdd, Int.reduceSub, Int.reduceNeg, Int.reduceToNat, Int.reducePow, Nat.reducePow, Int.reduceMul, Int.reduceDiv, ↓s_clock_New, e_clock_tick, h]
  · exact ⟨.slice none 0 0, push_f_eq rfl, by simp, .inl ⟨rfl, rfl⟩, by simp [blockOf]⟩

theorem q_Now (b : Nat) (now : Int) (l : List Al) (H : AHeap) (r : Clk H b now l) : CC F.clock_Clock_Now [.pointer (some ⟨b, 0, none⟩)] H = some (.int .i64 now, H) := by
  obtain ⟨v, h1, h2, h3, h4⟩ := r
  apply pure_of _ (d_clock_Clock_Now _ H) rfl
  rotate_left 2
  · simp (disch := first | with_reducible rfl | assumption | omega | rfl | (simp only [go_sem]; first | done | omega)) only [go_sem, ↓reduceIte, reduceCtorEq, Nat.reduceEqDiff, Nat.reduceAdd, Nat.reduceSub, Nat.reduceMul, Nat.reduceDiv, Nat.reduceMod, Nat.reduceLeDiff, Nat.reduceLT, Nat.reduceBEq, Int.reduceEq, Int.reduceBEq, Int.reduceBNe, Int.reduceLT, Int.reduceLE, Int.reduceAdd, Int.reduceSub, Int.reduceNeg, Int.reduceToNat, Int.reducePow, Nat.reducePow, Int.reduceMul, Int.reduceDiv, ↓s_clock_Clock_Now, enterK_eq (q_zero b true _ _ H h1), h1]
    rfl
  · (repeat (first | exact Fr.refl _ | refine Fr.push ?_ _ | refine Fr.set ?_ _ _ (by intro h; simp only [go_sem] at h; omega)))

def nextOf : List Al → Int
  | [] => 4611686018427387904
  | a :: _ => a.tm

theorem q_Next (b : Nat) (now : Int) (l : List Al) (H : AHeap) (r : Clk H b now l) : CC F.clock_Clock_Next [.pointer (some ⟨b, 0, none⟩)] H = some (.int .i64 (nextOf l), H) := by
  obtain ⟨v, h1, h2, h3, h4⟩ := r
  have hlen := h3.rd.lenS
  cases l with
  | nil =>
    apply pure_of _ (d_clock_Clock_Next _ H) rfl
    rotate_left 2
    · simp (disch := first | with_reducible rfl | assumption | omega | rfl | (simp only [go_sem]; first | done | omega)) only [go_sem, ↓reduceIte, reduceCtorEq, Nat.reduceEqDiff, Nat.reduceAdd, Nat.reduceSub, Nat.reduceMul, Nat.reduceDiv, Nat.reduceMod, Nat.reduceLeDiff, Nat.reduceLT, Nat.reduceBEq, Int.reduceEq, Int.reduceBEq, Int.reduceBNe, Int.reduceLT, Int.reduceLE, Int.reduceAdd, Int.reduceSub, Int.reduceNeg, Int.reduceToNat, Int.reducePow, Nat.reducePow, Int.reduceMul, Int.reduceDiv, ↓s_clock_Clock_Next, enterK_eq (q_zero b true _ _ H h1), h1, hlen]
      rfl
    · (repeat (first | exact Fr.refl _ | refine Fr.push ?_ _ | refine Fr.set ?_ _ _ (by intro h; simp only [go_sem] at h; omega)))
  | cons a l =>
    obtain ⟨bb, o, hix, hb, hc, _⟩ := h3.rd.ix (q := .i64) (i := 0) (by simp)
    have hix : ixS 2 v (.int .i64 0) = some (.pointer (some ⟨bb, o, none⟩)) := hix
    have hc1 : cellB (H.f bb) (o + 1) = some (.int .i64 a.tm) := cutB_cell hc (i := 1) (by decide)
    have hne : ¬ ((a :: l).length : Int) = 0 := by simp only [List.length_cons]; omega
    apply pure_of _ (d_clock_Clock_Next _ H) rfl
    rotate_left 2
    · simp (disch := first | with_reducible rfl | assumption | omega | rfl | (simp only [go_sem]; first | done | omega)) only [go_sem, ↓reduceIte, reduceCtorEq, Nat.reduceEqDiff, Nat.reduceAdd, Nat.reduceSub, Nat.reduceMul, Nat.reduceDiv, Nat.reduceMod, Nat.reduceLeDiff, Nat.reduceLT, Nat.reduceBEq, Int.reduceEq, Int.reduceBEq, Int.reduceBNe, Int.reduceLT, Int.reduceLE, Int.reduceAdd, Int.reduceSub, Int.reduceNeg, Int.reduceToNat, Int.reducePow, Nat.reducePow, Int.reduceMul, Int.reduceDiv, ↓s_clock_Clock_Next, enterK_eq (q_zero b true _ _ H h1), h1, hlen, hix, hc1]
      rw [show decide (((l.length : Int) + 1) = 0) = false from decide_eq_false (by omega)]
      simp (disch := first | with_reducible rfl | assumption | omega | rfl | (simp only [go_sem]; first | done | omega)) only [go_sem, ↓reduceIte, reduceCtorEq, Nat.reduceEqDiff, Nat.reduceAdd, Nat.reduceSub, Nat.reduceMul, Nat.reduceDiv, Nat.reduceMod, Nat.reduceLeDiff, Nat.reduceLT, Nat.reduceBEq, Int.reduceEq, Int.reduceBEq, Int.reduceBNe, Int.reduceLT, Int.reduceLE, Int.reduceAdd, Int.reduceSub, Int.reduceNeg, Int.reduceToNat, Int.reducePow, Nat.reducePow, Int.reduceMul, Int.reduceDiv, h1, hix, hc1]
      rfl
    · (repeat (first | exact Fr.refl _ | refine Fr.push ?_ _ | refine Fr.set ?_ _ _ (by intro h; simp only [go_sem] at h; omega)))

theorem q_find (b : Nat) (now : Int) (l : List Al) (id : Int) (H : AHeap) (r : Clk H b now l) (hl : l.length < 4611686018427387904) : CC F.clock_Clock_find [.pointer (some ⟨b, 0, none⟩), .int .i64 id] H = some (.int .i64 (idxFrom id l 0), H) := by
  obtain ⟨v, h1, h2, h3, h4⟩ := r
  have hr := (h3.still ((Fr.refl _).push (.cells [.int .i64 id] T.int true))).rd
  have hlen := h3.rd.lenS
  have hix : CC F.slices_IndexFunc_alarm [v, .func (.func F.clock_Clock_find_1) #[] #[.pointer (some ⟨H.n, 0, none⟩)]] (H.push (.cells [.int .i64 id] T.int true)) = some (.int .i64 (idxFrom id l 0), H.push (.cells [.int .i64 id] T.int true)) := by
    apply pure_of _ (d_slices_IndexFunc_alarm _ _ _) rfl
    rotate_left 2
    · simp (disch := first | with_reducible rfl | assumption | omega | rfl | (simp only [go_sem]; first | done | omega)) only [go_sem, ↓reduceIte, reduceCtorEq, Nat.reduceEqDiff, Nat.reduceAdd, Nat.reduceSub, Nat.reduceMul, Nat.reduceDiv, Nat.reduceMod, Nat.reduceLeDiff, Nat.reduceLT, Nat.reduceBEq, Int.reduceEq, Int.reduceBEq, Int.reduceBNe, Int.reduceLT, Int.reduceLE, Int.reduceAdd, Int.reduceSub, Int.reduceNeg, Int.reduceToNat, Int.reducePow, Nat.reducePow, Int.reduceMul, Int.reduceDiv, ↓s_slices_IndexFunc_alarm, hlen]
      exact l_index l v id H.n _ (by simp) (push_f_eq rfl) hr hl (endK Try.prog [.tmp 4]) l 0 (by simp) (by omega)
    · (repeat (first | exact Fr.refl _ | refine Fr.push ?_ _ | refine Fr.set ?_ _ _ (by intro h; simp only [go_sem] at h; omega)))
  apply pure_of _ (d_clock_Clock_find _ _ H) rfl
  rotate_left 2
  · simp (disch := first | with_reducible rfl | assumption | omega | rfl | (simp only [go_sem]; first | done | omega)) only [go_sem, ↓reduceIte, reduceCtorEq, Nat.reduceEqDiff, Nat.reduceAdd, Nat.reduceSub, Nat.reduceMul, Nat.reduceDiv, Nat.reduceMod, Nat.reduceLeDiff, Nat.reduceLT, Nat.reduceBEq, Int.reduceEq, Int.reduceBEq, Int.reduceBNe, Int.reduceLT, Int.reduceLE, Int.reduceAdd, Int.reduceSub, Int.reduceNeg, Int.reduceToNat, Int.reducePow, Nat.reducePow, Int.reduceMul, Int.reduceDiv, ↓s_clock_Clock_find, h1, enterK_eq hix]
    rfl
  · (repeat (first | exact Fr.refl _ | refine Fr.push ?_ _ | refine Fr.set ?_ _ _ (by intro h; simp only [go_sem] at h; omega)))

theorem q_Alarms (b : Nat) (now : Int) (l : List Al) (H : AHeap) (r : Clk H b now l) (hl : l.length ≤ 8796093022206) :
    ∃ v' H', CC F.clock_Clock_Alarms [.pointer (some ⟨b, 0, none⟩)] H = some (v', H') ∧ Own EAl H' T.api_Alarm v' l ∧ Still H H' ∧ New H v' := by
  obtain ⟨v, h1, h2, h3, h4⟩ := r
  obtain ⟨v', H', ho, r1, r2, r3⟩ := q_out l v H h3.rd hl
  have hd := d_clock_Clock_Alarms (.pointer (some ⟨b, 0, none⟩)) H (r := (v', H')) (by simp (disch := first | with_reducible rfl | assumption | omega | rfl | (simp only [go_sem]; first | done | omega)) only [go_sem, ↓reduceIte, reduceCtorEq, Nat.reduceEqDiff, Nat.reduceAdd, Nat.reduceSub, Nat.reduceMul, Nat.reduceDiv, Nat.reduceMod, Nat.reduceLeDiff, Nat.reduceLT, Nat.reduceBEq, Int.reduceEq, Int.reduceBEq, Int.reduceBNe, Int.reduceLT, Int.reduceLE, Int.reduceAdd, Int.reduceSub, Int.reduceNeg, Int.reduceToNat, Int.reducePow, Nat.reducePow, Int.reduceMul, Int.reduceDiv, ↓s_clock_Clock_Alarms, enterK_eq (q_zero b true _ _ H h1), h1, enterK_eq ho])
  unfold tidy at hd
  split at hd
  · rename_i hg
    simp only [Bool.and_eq_true] at hg
    refine ⟨v', H, hd, ?_, Fr.refl _, r3⟩
    rcases r1 with h | ⟨_, a, h, _⟩ | ⟨b, o, c, xs, h, _⟩
    · exact .inl h
    · rw [h] at hg; exact absurd hg.1 (by simp [gr])
    · rw [h] at hg; exact absurd hg.1 (by simp [gr])
  · exact ⟨v', H', hd, r1, r2, r3⟩

end Go.Proofs.Ytldgonjihhndgaa
