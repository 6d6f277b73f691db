/-
  18 texts in one (merge.py): F G Eng26 H I ShClockFulls DsClockFulls J Eng28 K N O P Q ShClockHolds DsClockHolds L Eng27.
  Conditions: none. By an AI agent.
-/
import Derived.Test.YtldgonjihhndgaaLawClockPlaysQ3
import Derived.Laws.StructEq
import Derived.Test.YtldgonjihhndgaaChecked
import Derived.KernelRfl
import Derived.ChangeArms
import Derived.DataReads
import Derived.ChangeShapes
import Derived.WideShapes

/-
  Chapter 02: the clock's methods.
  Conditions: none. By an AI agent.
-/
set_option maxRecDepth 10000
set_option linter.unusedSimpArgs false
set_option linter.unusedVariables false
namespace Go.Proofs.Ytldgonjihhndgaa
open Go Eng

/-- A slice whose block, if it has one, is new. -/
def New (H : AHeap) (v : Value) : Prop := ∀ b, blockOf v = some b → H.n ≤ b

theorem l_out (l : List Al) (v : Value) (H : AHeap) (hr : Rd EAl H v l) (hl : l.length ≤ 8796093022206) : ∀ (m : List Al) (i : Nat) (v3 : Value) (Hc : AHeap), l.drop i = m → i ≤ l.length →
    Own EAl Hc T.api_Alarm v3 (l.take i) → Still H Hc → New H v3 →
    ∃ v' H', (∀ K : K, l_clock_out_0 v3 v (.int .i64 l.length) (.int .i64 i) Hc K = K (.exit 0) [(9, .bool false), (3, v'), (6, v), (7, .int .i64 l.length), (8, .int .i64 l.length)] H') ∧ Own EAl H' T.api_Alarm v' l ∧ Still H H' ∧ New H v'
  | [], i, v3, Hc, hm, hi, ho, hs, hn => by
    have h : i = l.length := Nat.le_antisymm hi (List.drop_eq_nil_iff.1 hm)
    subst h
    have hlt : ¬ (l.length : Int) < (l.length : Int) := by omega
    refine ⟨v3, Hc, fun K => ?_, by rwa [List.take_length] at ho, hs, hn⟩
    rw [r_clock_out_0]
    simp (disch := first | with_reducible rfl | assumption | omega | rfl | (simp only [go_sem]; first | done | omega)) only [go_sem, ↓reduceIte, reduceCtorEq, Nat.reduceEqDiff, Nat.reduceAdd, Nat.reduceSub, Nat.reduceMul, Nat.reduceDiv, Nat.reduceMod, Nat.reduceLeDiff, Nat.reduceLT, Nat.reduceBEq, Int.reduceEq, Int.reduceBEq, Int.reduceBNe, Int.reduceLT, Int.reduceLE, Int.reduceAdd, Int.reduceSub, Int.reduceNeg, Int.reduceToNat, Int.reducePow, Nat.reducePow, Int.reduceMul, Int.reduceDiv, ↓s_clock_out_b0, hlt]
  | a :: m, i, v3, Hc, hm, hi, ho, hs, hn => by
    have h : i < l.length := by
      rcases Nat.lt_or_ge i l.length with h | h
      · exact h
      · rw [List.drop_eq_nil_of_le h] at hm; cases hm
    have hlt : (i : Int) < (l.length : Int) := by omega
    have ha : l[i] = a := by rw [List.drop_eq_getElem_cons h] at hm; exact (List.cons.inj hm).1
    have hm' : l.drop (i + 1) = m := by rw [List.drop_eq_getElem_cons h] at hm; exact (List.cons.inj hm).2
    obtain ⟨b, o, hix, hb, hc, _⟩ := (hr.still hs).ix (q := .i64) h
    rw [ha] at hc
    have hix : ixS 2 v (.int .i64 i) = some (.pointer (some ⟨b, o, none⟩)) := hix
    have hc : cutB (Hc.f b) o 2 = some [.int .i64 a.id, .int .i64 a.tm] := hc
    let H1 : AHeap := (Hc.push (.cells [.int .i64 0, .int .i64 0] T.clock_alarm true)).set Hc.n (.cells [.int .i64 a.id, .int .i64 a.tm] T.clock_alarm true)
    let H2 : AHeap := H1.push (.cells [.int .i64 a.id, .int .i64 a.tm] T.api_Alarm true)
    have s1 : Still Hc H1 := by
      refine Fr.set (Fr.push (Fr.refl _) _) _ _ ?_
      intro h; omega
    have s2 : Still Hc H2 := s1.push _
    have hsrc : srcS 2 (.slice (some ⟨Hc.n + 1, 0, none⟩) 1 2) H2 = some ([a].length, EAl.cells [a]) := by
      unfold srcS
      simp only [cut_b, Nat.one_ne_zero, if_false]
      rw [show H2.f (Hc.n + 1) = .cells [.int .i64 a.id, .int .i64 a.tm] T.api_Alarm true from push_f_eq rfl]
      rfl
    have htl : (l.take i).length = i := by simp; omega
    obtain ⟨v4, H3, happ, hown, hfr, hbl, _⟩ := (ho.still s2).app (m := [a]) (by simp) (sz := 2) (bytes := 16) rfl (by simp; omega) (by simp; omega) hsrc
    have htake : l.take i ++ [a] = l.take (i + 1) := by rw [List.take_succ_eq_append_getElem h, ha]
    rw [htake] at hown
    have s3 : Still H H3 := (hs.then s2 fun _ _ h => h).then hfr fun c hc h => by
      have := hn c h
      omega
    have hn4 : New H v4 := by
      intro c h
      rcases hbl with h' | h'
      · exact hn c (h' ▸ h)
      · rw [h'] at h
        cases h
        have := hs.n
        have := s2.n
        omega
    obtain ⟨v', H', hloop, r1, r2, r3⟩ := l_out l v H hr hl m (i + 1) v4 H3 hm' h hown s3 hn4
    refine ⟨v', H', fun K => ?_, r1, r2, r3⟩
    rw [← hloop K, r_clock_out_0]
    have happ : app T.api_Alarm 2 16 v3 (srcS 2 (.slice (some ⟨Hc.n + 1, 0, none⟩) 1 2) (((Hc.push (.cells [.int .i64 0, .int .i64 0] T.clock_alarm true)).set Hc.n (.cells [.int .i64 a.id, .int .i64 a.tm] T.clock_alarm true)).push (.cells [.int .i64 a.id, .int .i64 a.tm] T.api_Alarm true)))
      (((Hc.push (.cells [.int .i64 0, .int .i64 0] T.clock_alarm true)).set Hc.n (.cells [.int .i64 a.id, .int .i64 a.tm] T.clock_alarm true)).push (.cells [.int .i64 a.id, .int .i64 a.tm] T.api_Alarm true)) = some (v4, H3) := happ
    simp (disch := first | with_reducible rfl | assumption | omega | rfl | (simp only [go_sem]; first | done | omega)) only [go_sem, ↓reduceIte, reduceCtorEq, Nat.reduceEqDiff, Nat.reduceAdd, Nat.reduceSub, Nat.reduceMul, Nat.reduceDiv, Nat.reduceMod, Nat.reduceLeDiff, Nat.reduceLT, Nat.reduceBEq, Int.reduceEq, Int.reduceBEq, Int.reduceBNe, Int.reduceLT, Int.reduceLE, Int.reduceAdd, Int.reduceSub, Int.reduceNeg, Int.reduceToNat, Int.reducePow, Nat.reducePow, Int.reduceMul, Int.reduceDiv, ↓s_clock_out_b0, hlt, hix, hc, happ]

theorem q_out (l : List Al) (v : Value) (H : AHeap) (hr : Rd EAl H v l) (hl : l.length ≤ 8796093022206) :
    ∃ v' H', CC F.clock_out [v] H = some (v', H') ∧ Own EAl H' T.api_Alarm v' l ∧ Still H H' ∧ New H v' := by
  obtain ⟨v', H', hloop, r1, r2, r3⟩ := l_out l v H hr hl l 0 (.slice none 0 0) H (by simp) (by omega) (.inl ⟨by simp, rfl⟩) (Fr.refl _) (fun b h => by cases h)
  have hlen := hr.lenS
  have hs : s_clock_out guardK condL shareL Try.prog CC l_clock_out_0 v H (endK Try.prog [.tmp 2]) = some (v', H') := by
    simp (disch := first | with_reducible rfl | assumption | omega | rfl | (simp only [go_sem]; first | done | omega)) only [go_sem, ↓reduceIte, reduceCtorEq, Nat.reduceEqDiff, Nat.reduceAdd, Nat.reduceSub, Nat.reduceMul, Nat.reduceDiv, Nat.reduceMod, Nat.reduceLeDiff, Nat.reduceLT, Nat.reduceBEq, Int.reduceEq, Int.reduceBEq, Int.reduceBNe, Int.reduceLT, Int.reduceLE, Int.reduceAdd, Int.reduceSub, Int.reduceNeg, Int.reduceToNat, Int.reducePow, Nat.reducePow, Int.reduceMul, Int.reduceDiv, ↓s_clock_out, hlen]
    rw [show Value.int IntKind.i64 0 = Value.int IntKind.i64 ((0 : Nat) : Int) from rfl, hloop]
    simp (disch := first | with_reducible rfl | assumption | omega | rfl | (simp only [go_sem]; first | done | omega)) only [go_sem, ↓reduceIte, reduceCtorEq, Nat.reduceEqDiff, Nat.reduceAdd, Nat.reduceSub, Nat.reduceMul, Nat.reduceDiv, Nat.reduceMod, Nat.reduceLeDiff, Nat.reduceLT, Nat.reduceBEq, Int.reduceEq, Int.reduceBEq, Int.reduceBNe, Int.reduceLT, Int.reduceLE, Int.reduceAdd, Int.reduceSub, Int.reduceNeg, Int.reduceToNat, Int.reducePow, Nat.reducePow, Int.reduceMul, Int.reduceDiv]
  have hd := d_clock_out v H hs
  unfold tidy at hd
  split at hd
  · rename_i hg
    simp only [Bool.and_eq_true] at hg
    -- the result names no memory: it is nil
    refine ⟨v', H, hd, ?_, Fr.refl _, r3⟩
    rcases r1 with h | ⟨_, a, h, _⟩ | ⟨b, o, c, xs, h, _⟩
    · exact .inl h
    · rw [h] at hg; exact absurd hg.1 (by simp [gr])
    · rw [h] at hg; exact absurd hg.1 (by simp [gr])
  · exact ⟨v', H', hd, r1, r2, r3⟩

/-! ### The clock -/

def Clk (H : AHeap) (b : Nat) (now : Int) (l : List Al) : Prop :=
  ∃ v, H.f b = .cells [.bool true, .int .i64 now, v] T.clock_Clock true ∧ b < H.n ∧ Own EAl H T.clock_alarm v l ∧ blockOf v ≠ some b

def Ok (H : AHeap) : Prop := ∀ b, H.ver b < H.clk

theorem Clk.keep {H H' : AHeap} {S : Nat → Prop} {b : Nat} {now : Int} {l : List Al} (r : Clk H b now l) (h : Fr S H H') (hb : ¬ S b) (hv : ∀ v, H.f b = .cells [.bool true, .int .i64 now, v] T.clock_Clock true → Off S v) : Clk H' b now l := by
  obtain ⟨v, h1, h2, h3, h4⟩ := r
  exact ⟨v, by rw [h.f h2 hb]; exact h1, Nat.lt_of_lt_of_le h2 h.n, h3.keep h (hv v h1), h4⟩
theorem Clk.still {H H' : AHeap} {b : Nat} {now : Int} {l : List Al} (r : Clk H b now l) (h : Still H H') : Clk H' b now l := r.keep h (fun h => h) fun _ _ _ _ h => h

theorem q_New_bad (now : Int) (H : AHeap) (h : isTick now = false) : CC F.clock_New [.int .i64 now] H = some (.tuple #[.pointer none, .int .i64 2], H) := by
  apply pure_of _ (d_clock_New _ H) rfl
  rotate_left 2
  · simp (disch := first | with_reducible rfl | assumption | omega | rfl | (simp only [go_sem]; first | done | omega)) only [go_sem, ↓reduceIte, reduceCtorEq, Nat.reduceEqDiff, Nat.reduceAdd, Nat.reduceSub, Nat.reduceMul, Nat.reduceDiv, Nat.reduceMod, Nat.reduceLeDiff, Nat.reduceLT, Nat.reduceBEq, Int.reduceEq, Int.reduceBEq, Int.reduceBNe, Int.reduceLT, Int.reduceLE, Int.reduceAdd, Int.reduceSub, Int.reduceNeg, Int.reduceToNat, Int.reducePow, Nat.reducePow, Int.reduceMul, Int.reduceDiv, ↓s_clock_New, e_clock_tick, h]
    rfl
  · (repeat (first | exact Fr.refl _ | refine Fr.push ?_ _ | refine Fr.set ?_ _ _ (by intro h; first | omega | (simp only [go_sem] at h; omega))))

theorem q_New (now : Int) (H : AHeap) (h : isTick now = true) : ∃ H', CC F.clock_New [.int .i64 now] H = some (.tuple #[.pointer (some ⟨H.n, 0, none⟩), .int .i64 0], H') ∧ Clk H' H.n now [] ∧ Still H H' := by
  refine ⟨H.push (.cells [.bool true, .int .i64 now, .slice none 0 0] T.clock_Clock true), (d_clock_New _ H (r := (.tuple #[.pointer (some ⟨H.n, 0, none⟩), .int .i64 0], _)) ?_).trans (congrArg some (tidy_mem rfl)), ?_, (Fr.refl _).push _⟩
  · simp (disch := first | with_reducible rfl | assumption | omega | rfl | (simp only [go_sem]; first | done | omega)) only [go_sem, ↓reduceIte, reduceCtorEq, Nat.reduceEqDiff, Nat.reduceAdd, Nat.reduceSub, Nat.reduceMul, Nat.reduceDiv, Nat.reduceMod, Nat.reduceLeDiff, Nat.reduceLT, Nat.reduceBEq, Int.reduceEq, Int.reduceBEq, Int.reduceBNe, Int.reduceLT, Int.reduceLE, Int.reduceAdd, Int.reduceSub, Int.reduceNeg, Int.reduceToNat, Int.reducePow, Nat.reducePow, Int.reduceMul, Int.reduceDiv, ↓s_clock_New, e_clock_tick, h]
  · exact ⟨.slice none 0 0, push_f_eq rfl, by simp, .inl ⟨rfl, rfl⟩, by simp [blockOf]⟩

theorem q_Now (b : Nat) (now : Int) (l : List Al) (H : AHeap) (r : Clk H b now l) : CC F.clock_Clock_Now [.pointer (some ⟨b, 0, none⟩)] H = some (.int .i64 now, H) := by
  obtain ⟨v, h1, h2, h3, h4⟩ := r
  apply pure_of _ (d_clock_Clock_Now _ H) rfl
  rotate_left 2
  · simp (disch := first | with_reducible rfl | assumption | omega | rfl | (simp only [go_sem]; first | done | omega)) only [go_sem, ↓reduceIte, reduceCtorEq, Nat.reduceEqDiff, Nat.reduceAdd, Nat.reduceSub, Nat.reduceMul, Nat.reduceDiv, Nat.reduceMod, Nat.reduceLeDiff, Nat.reduceLT, Nat.reduceBEq, Int.reduceEq, Int.reduceBEq, Int.reduceBNe, Int.reduceLT, Int.reduceLE, Int.reduceAdd, Int.reduceSub, Int.reduceNeg, Int.reduceToNat, Int.reducePow, Nat.reducePow, Int.reduceMul, Int.reduceDiv, ↓s_clock_Clock_Now, enterK_eq (q_zero b true _ _ H h1), h1]
    rfl
  · (repeat (first | exact Fr.refl _ | refine Fr.push ?_ _ | refine Fr.set ?_ _ _ (by intro h; first | omega | (simp only [go_sem] at h; omega))))

def nextOf : List Al → Int
  | [] => 4611686018427387904
  | a :: _ => a.tm

theorem q_Next (b : Nat) (now : Int) (l : List Al) (H : AHeap) (r : Clk H b now l) : CC F.clock_Clock_Next [.pointer (some ⟨b, 0, none⟩)] H = some (.int .i64 (nextOf l), H) := by
  obtain ⟨v, h1, h2, h3, h4⟩ := r
  have hlen := h3.rd.lenS
  cases l with
  | nil =>
    apply pure_of _ (d_clock_Clock_Next _ H) rfl
    rotate_left 2
    · simp (disch := first | with_reducible rfl | assumption | omega | rfl | (simp only [go_sem]; first | done | omega)) only [go_sem, ↓reduceIte, reduceCtorEq, Nat.reduceEqDiff, Nat.reduceAdd, Nat.reduceSub, Nat.reduceMul, Nat.reduceDiv, Nat.reduceMod, Nat.reduceLeDiff, Nat.reduceLT, Nat.reduceBEq, Int.reduceEq, Int.reduceBEq, Int.reduceBNe, Int.reduceLT, Int.reduceLE, Int.reduceAdd, Int.reduceSub, Int.reduceNeg, Int.reduceToNat, Int.reducePow, Nat.reducePow, Int.reduceMul, Int.reduceDiv, ↓s_clock_Clock_Next, enterK_eq (q_zero b true _ _ H h1), h1, hlen]
      rfl
    · (repeat (first | exact Fr.refl _ | refine Fr.push ?_ _ | refine Fr.set ?_ _ _ (by intro h; first | omega | (simp only [go_sem] at h; omega))))
  | cons a l =>
    obtain ⟨bb, o, hix, hb, hc, _⟩ := h3.rd.ix (q := .i64) (i := 0) (by simp)
    have hix : ixS 2 v (.int .i64 0) = some (.pointer (some ⟨bb, o, none⟩)) := hix
    have hc1 : cellB (H.f bb) (o + 1) = some (.int .i64 a.tm) := cutB_cell hc (i := 1) (by decide)
    have hne : ¬ ((a :: l).length : Int) = 0 := by simp only [List.length_cons]; omega
    apply pure_of _ (d_clock_Clock_Next _ H) rfl
    rotate_left 2
    · simp (disch := first | with_reducible rfl | assumption | omega | rfl | (simp only [go_sem]; first | done | omega)) only [go_sem, ↓reduceIte, reduceCtorEq, Nat.reduceEqDiff, Nat.reduceAdd, Nat.reduceSub, Nat.reduceMul, Nat.reduceDiv, Nat.reduceMod, Nat.reduceLeDiff, Nat.reduceLT, Nat.reduceBEq, Int.reduceEq, Int.reduceBEq, Int.reduceBNe, Int.reduceLT, Int.reduceLE, Int.reduceAdd, Int.reduceSub, Int.reduceNeg, Int.reduceToNat, Int.reducePow, Nat.reducePow, Int.reduceMul, Int.reduceDiv, ↓s_clock_Clock_Next, enterK_eq (q_zero b true _ _ H h1), h1, hlen, hix, hc1]
      rw [show decide (((l.length : Int) + 1) = 0) = false from decide_eq_false (by omega)]
      simp (disch := first | with_reducible rfl | assumption | omega | rfl | (simp only [go_sem]; first | done | omega)) only [go_sem, ↓reduceIte, reduceCtorEq, Nat.reduceEqDiff, Nat.reduceAdd, Nat.reduceSub, Nat.reduceMul, Nat.reduceDiv, Nat.reduceMod, Nat.reduceLeDiff, Nat.reduceLT, Nat.reduceBEq, Int.reduceEq, Int.reduceBEq, Int.reduceBNe, Int.reduceLT, Int.reduceLE, Int.reduceAdd, Int.reduceSub, Int.reduceNeg, Int.reduceToNat, Int.reducePow, Nat.reducePow, Int.reduceMul, Int.reduceDiv, h1, hix, hc1]
      rfl
    · (repeat (first | exact Fr.refl _ | refine Fr.push ?_ _ | refine Fr.set ?_ _ _ (by intro h; first | omega | (simp only [go_sem] at h; omega))))

theorem q_find (b : Nat) (now : Int) (l : List Al) (id : Int) (H : AHeap) (r : Clk H b now l) (hl : l.length < 4611686018427387904) : CC F.clock_Clock_find [.pointer (some ⟨b, 0, none⟩), .int .i64 id] H = some (.int .i64 (idxFrom id l 0), H) := by
  obtain ⟨v, h1, h2, h3, h4⟩ := r
  have hr := (h3.still ((Fr.refl _).push (.cells [.int .i64 id] T.int true))).rd
  have hlen := h3.rd.lenS
  have hix : CC F.slices_IndexFunc_alarm [v, .func (.func F.clock_Clock_find_1) #[] #[.pointer (some ⟨H.n, 0, none⟩)]] (H.push (.cells [.int .i64 id] T.int true)) = some (.int .i64 (idxFrom id l 0), H.push (.cells [.int .i64 id] T.int true)) := by
    apply pure_of _ (d_slices_IndexFunc_alarm _ _ _) rfl
    rotate_left 2
    · simp (disch := first | with_reducible rfl | assumption | omega | rfl | (simp only [go_sem]; first | done | omega)) only [go_sem, ↓reduceIte, reduceCtorEq, Nat.reduceEqDiff, Nat.reduceAdd, Nat.reduceSub, Nat.reduceMul, Nat.reduceDiv, Nat.reduceMod, Nat.reduceLeDiff, Nat.reduceLT, Nat.reduceBEq, Int.reduceEq, Int.reduceBEq, Int.reduceBNe, Int.reduceLT, Int.reduceLE, Int.reduceAdd, Int.reduceSub, Int.reduceNeg, Int.reduceToNat, Int.reducePow, Nat.reducePow, Int.reduceMul, Int.reduceDiv, ↓s_slices_IndexFunc_alarm, hlen]
      exact l_index l v id H.n _ (by simp) (push_f_eq rfl) hr hl (endK Try.prog [.tmp 4]) l 0 (by simp) (by omega)
    · (repeat (first | exact Fr.refl _ | refine Fr.push ?_ _ | refine Fr.set ?_ _ _ (by intro h; first | omega | (simp only [go_sem] at h; omega))))
  apply pure_of _ (d_clock_Clock_find _ _ H) rfl
  rotate_left 2
  · simp (disch := first | with_reducible rfl | assumption | omega | rfl | (simp only [go_sem]; first | done | omega)) only [go_sem, ↓reduceIte, reduceCtorEq, Nat.reduceEqDiff, Nat.reduceAdd, Nat.reduceSub, Nat.reduceMul, Nat.reduceDiv, Nat.reduceMod, Nat.reduceLeDiff, Nat.reduceLT, Nat.reduceBEq, Int.reduceEq, Int.reduceBEq, Int.reduceBNe, Int.reduceLT, Int.reduceLE, Int.reduceAdd, Int.reduceSub, Int.reduceNeg, Int.reduceToNat, Int.reducePow, Nat.reducePow, Int.reduceMul, Int.reduceDiv, ↓s_clock_Clock_find, h1, enterK_eq hix]
    rfl
  · (repeat (first | exact Fr.refl _ | refine Fr.push ?_ _ | refine Fr.set ?_ _ _ (by intro h; first | omega | (simp only [go_sem] at h; omega))))

theorem q_Alarms (b : Nat) (now : Int) (l : List Al) (H : AHeap) (r : Clk H b now l) (hl : l.length ≤ 8796093022206) :
    ∃ v' H', CC F.clock_Clock_Alarms [.pointer (some ⟨b, 0, none⟩)] H = some (v', H') ∧ Own EAl H' T.api_Alarm v' l ∧ Still H H' ∧ New H v' := by
  obtain ⟨v, h1, h2, h3, h4⟩ := r
  obtain ⟨v', H', ho, r1, r2, r3⟩ := q_out l v H h3.rd hl
  have hd := d_clock_Clock_Alarms (.pointer (some ⟨b, 0, none⟩)) H (r := (v', H')) (by simp (disch := first | with_reducible rfl | assumption | omega | rfl | (simp only [go_sem]; first | done | omega)) only [go_sem, ↓reduceIte, reduceCtorEq, Nat.reduceEqDiff, Nat.reduceAdd, Nat.reduceSub, Nat.reduceMul, Nat.reduceDiv, Nat.reduceMod, Nat.reduceLeDiff, Nat.reduceLT, Nat.reduceBEq, Int.reduceEq, Int.reduceBEq, Int.reduceBNe, Int.reduceLT, Int.reduceLE, Int.reduceAdd, Int.reduceSub, Int.reduceNeg, Int.reduceToNat, Int.reducePow, Nat.reducePow, Int.reduceMul, Int.reduceDiv, ↓s_clock_Clock_Alarms, enterK_eq (q_zero b true _ _ H h1), h1, enterK_eq ho])
  unfold tidy at hd
  split at hd
  · rename_i hg
    simp only [Bool.and_eq_true] at hg
    refine ⟨v', H, hd, ?_, Fr.refl _, r3⟩
    rcases r1 with h | ⟨_, a, h, _⟩ | ⟨b, o, c, xs, h, _⟩
    · exact .inl h
    · rw [h] at hg; exact absurd hg.1 (by simp [gr])
    · rw [h] at hg; exact absurd hg.1 (by simp [gr])
  · exact ⟨v', H', hd, r1, r2, r3⟩

end Go.Proofs.Ytldgonjihhndgaa

/-
  Chapter 02: Set, Clear, Tick, Copy of a clock.
  Conditions: none. By an AI agent.
-/
set_option maxRecDepth 10000
set_option linter.unusedSimpArgs false
set_option linter.unusedVariables false
namespace Go.Proofs.Ytldgonjihhndgaa
open Go Eng

/-- p is where an alarm would be. -/
def Pos (l : List Al) (a : Al) (p : Nat) : Prop :=
  p ≤ l.length ∧ (∀ (i : Nat) (h : i < l.length), i < p → cmpA l[i] a < 0) ∧ (∀ (i : Nat) (h : i < l.length), p ≤ i → ¬ cmpA l[i] a < 0)

theorem q_Set_arg (b : Nat) (now id tm : Int) (l : List Al) (H : AHeap) (r : Clk H b now l) (h : ¬ (0 ≤ id ∧ isTick tm = true)) : CC F.clock_Clock_Set [.pointer (some ⟨b, 0, none⟩), .int .i64 id, .int .i64 tm] H = some (.int .i64 2, H) := by
  obtain ⟨v, h1, h2, h3, h4⟩ := r
  by_cases hid : id < 0
  · apply pure_of _ (d_clock_Clock_Set _ _ _ H) rfl
    rotate_left 2
    · simp (disch := first | with_reducible rfl | assumption | omega | rfl | (simp only [go_sem]; first | done | omega)) only [go_sem, ↓reduceIte, reduceCtorEq, Nat.reduceEqDiff, Nat.reduceAdd, Nat.reduceSub, Nat.reduceMul, Nat.reduceDiv, Nat.reduceMod, Nat.reduceLeDiff, Nat.reduceLT, Nat.reduceBEq, Int.reduceEq, Int.reduceBEq, Int.reduceBNe, Int.reduceLT, Int.reduceLE, Int.reduceAdd, Int.reduceSub, Int.reduceNeg, Int.reduceToNat, Int.reducePow, Nat.reducePow, Int.reduceMul, Int.reduceDiv, ↓s_clock_Clock_Set, enterK_eq (q_zero b true _ _ H h1), hid]
      rfl
    · (repeat (first | exact Fr.refl _ | refine Fr.push ?_ _ | refine Fr.set ?_ _ _ (by intro h; first | omega | (simp only [go_sem] at h; omega))))
  · have ht : isTick tm = false := by
      cases hq : isTick tm with
      | false => rfl
      | true => exact absurd ⟨by omega, hq⟩ h
    apply pure_of _ (d_clock_Clock_Set _ _ _ H) rfl
    rotate_left 2
    · simp (disch := first | with_reducible rfl | assumption | omega | rfl | (simp only [go_sem]; first | done | omega)) only [go_sem, ↓reduceIte, reduceCtorEq, Nat.reduceEqDiff, Nat.reduceAdd, Nat.reduceSub, Nat.reduceMul, Nat.reduceDiv, Nat.reduceMod, Nat.reduceLeDiff, Nat.reduceLT, Nat.reduceBEq, Int.reduceEq, Int.reduceBEq, Int.reduceBNe, Int.reduceLT, Int.reduceLE, Int.reduceAdd, Int.reduceSub, Int.reduceNeg, Int.reduceToNat, Int.reducePow, Nat.reducePow, Int.reduceMul, Int.reduceDiv, ↓s_clock_Clock_Set, enterK_eq (q_zero b true _ _ H h1), hid, e_clock_tick, ht]
      rfl
    · (repeat (first | exact Fr.refl _ | refine Fr.push ?_ _ | refine Fr.set ?_ _ _ (by intro h; first | omega | (simp only [go_sem] at h; omega))))

theorem q_Set_busy (b : Nat) (now id tm : Int) (l : List Al) (H : AHeap) (r : Clk H b now l) (hl : l.length < 4611686018427387904) (hid : 0 ≤ id) (ht : isTick tm = true) (hf : 0 ≤ idxFrom id l 0) : CC F.clock_Clock_Set [.pointer (some ⟨b, 0, none⟩), .int .i64 id, .int .i64 tm] H = some (.int .i64 11, H) := by
  have hfd := q_find b now l id H r hl
  obtain ⟨v, h1, h2, h3, h4⟩ := r
  have hid' : ¬ id < 0 := by omega
  apply pure_of _ (d_clock_Clock_Set _ _ _ H) rfl
  rotate_left 2
  · simp (disch := first | with_reducible rfl | assumption | omega | rfl | (simp only [go_sem]; first | done | omega)) only [go_sem, ↓reduceIte, reduceCtorEq, Nat.reduceEqDiff, Nat.reduceAdd, Nat.reduceSub, Nat.reduceMul, Nat.reduceDiv, Nat.reduceMod, Nat.reduceLeDiff, Nat.reduceLT, Nat.reduceBEq, Int.reduceEq, Int.reduceBEq, Int.reduceBNe, Int.reduceLT, Int.reduceLE, Int.reduceAdd, Int.reduceSub, Int.reduceNeg, Int.reduceToNat, Int.reducePow, Nat.reducePow, Int.reduceMul, Int.reduceDiv, ↓s_clock_Clock_Set, enterK_eq (q_zero b true _ _ H h1), hid', e_clock_tick, ht, enterK_eq hfd, hf]
    rfl
  · (repeat (first | exact Fr.refl _ | refine Fr.push ?_ _ | refine Fr.set ?_ _ _ (by intro h; first | omega | (simp only [go_sem] at h; omega))))

theorem q_Set_full (b : Nat) (now id tm : Int) (l : List Al) (H : AHeap) (r : Clk H b now l) (hl : l.length < 4611686018427387904) (hid : 0 ≤ id) (ht : isTick tm = true) (hf : ¬ 0 ≤ idxFrom id l 0) (hfull : 4096 ≤ (l.length : Int)) : CC F.clock_Clock_Set [.pointer (some ⟨b, 0, none⟩), .int .i64 id, .int .i64 tm] H = some (.int .i64 7, H) := by
  have hfd := q_find b now l id H r hl
  obtain ⟨v, h1, h2, h3, h4⟩ := r
  have hid' : ¬ id < 0 := by omega
  have hlen := h3.rd.lenS
  apply pure_of _ (d_clock_Clock_Set _ _ _ H) rfl
  rotate_left 2
  · simp (disch := first | with_reducible rfl | assumption | omega | rfl | (simp only [go_sem]; first | done | omega)) only [go_sem, ↓reduceIte, reduceCtorEq, Nat.reduceEqDiff, Nat.reduceAdd, Nat.reduceSub, Nat.reduceMul, Nat.reduceDiv, Nat.reduceMod, Nat.reduceLeDiff, Nat.reduceLT, Nat.reduceBEq, Int.reduceEq, Int.reduceBEq, Int.reduceBNe, Int.reduceLT, Int.reduceLE, Int.reduceAdd, Int.reduceSub, Int.reduceNeg, Int.reduceToNat, Int.reducePow, Nat.reducePow, Int.reduceMul, Int.reduceDiv, ↓s_clock_Clock_Set, enterK_eq (q_zero b true _ _ H h1), hid', e_clock_tick, ht, enterK_eq hfd, hf, h1, hlen, hfull]
    rfl
  · (repeat (first | exact Fr.refl _ | refine Fr.push ?_ _ | refine Fr.set ?_ _ _ (by intro h; first | omega | (simp only [go_sem] at h; omega))))

theorem q_Set (b : Nat) (now id tm : Int) (l : List Al) (H : AHeap) (ok : Ok H) (r : Clk H b now l) (hid : 0 ≤ id) (ht : isTick tm = true) (hf : ¬ 0 ≤ idxFrom id l 0) (hfull : ¬ 4096 ≤ (l.length : Int)) (p : Nat) (hp : Pos l ⟨id, tm⟩ p) :
    ∃ H', CC F.clock_Clock_Set [.pointer (some ⟨b, 0, none⟩), .int .i64 id, .int .i64 tm] H = some (.int .i64 0, H') ∧ Clk H' b now (l.take p ++ ⟨id, tm⟩ :: l.drop p) ∧ Fr (fun x => x = b) H H' := by
  have hfd := q_find b now l id H r (by omega)
  obtain ⟨v, h1, h2, h3, h4⟩ := r
  obtain ⟨hp0, hp1, hp2⟩ := hp
  have hid' : ¬ id < 0 := by omega
  have hlen := h3.rd.lenS
  generalize hH1 : (H.push (.cells [.int .i64 0, .int .i64 0] T.clock_alarm true)).set H.n (.cells [.int .i64 id, .int .i64 tm] T.clock_alarm true) = H1
  have s1 : Still H H1 := by
    rw [← hH1]
    exact ((Fr.refl H).push _).set _ _ (fun h => by omega)
  have n1 : H1.n = H.n + 1 := by rw [← hH1]; rfl
  have f1 : H1.f H.n = .cells [.int .i64 id, .int .i64 tm] T.clock_alarm true := by rw [← hH1]; exact set_f_eq
  obtain ⟨is, hbs⟩ := q_bs l v ⟨id, tm⟩ H1 (h3.rd.still s1) (by omega) p hp0 hp1 hp2
  have hbs : CC F.slices_BinarySearchFunc_alarm [v, .agg #[.int .i64 id, .int .i64 tm], .func (.func F.clock_alarm_compare) #[] #[]] H1 = some (.tuple #[.int .i64 p, .bool is], H1) := hbs
  obtain ⟨v5, H2, hcl, ho5, s2, hn5⟩ := q_clone l v H1 (h3.rd.still s1) (by omega)
  have n2 : H1.n ≤ H2.n := s2.n
  have hver : H2.ver H.n = H1.ver H.n := s2.ver (by omega) (fun h => h)
  have f2 : H2.f H.n = .cells [.int .i64 id, .int .i64 tm] T.clock_alarm true := by rw [s2.f (by omega) (fun h => h), f1]
  have fb1 : H1.f b = .cells [.bool true, .int .i64 now, v] T.clock_Clock true := by rw [s1.f h2 (fun h => h), h1]
  have fb2 : H2.f b = .cells [.bool true, .int .i64 now, v] T.clock_Clock true := by rw [s2.f (by omega) (fun h => h), s1.f h2 (fun h => h), h1]
  generalize hH3 : H2.push (.cells [.int .i64 id, .int .i64 tm] T.clock_alarm true) = H3
  have s3 : Still H2 H3 := by rw [← hH3]; exact (Fr.refl H2).push _
  have f3 : H3.f H2.n = .cells [.int .i64 id, .int .i64 tm] T.clock_alarm true := by rw [← hH3]; exact push_f_eq rfl
  have n3 : H3.n = H2.n + 1 := by rw [← hH3]; rfl
  have hne5 : blockOf v5 ≠ some H2.n := fun h => by have := ho5.blk h; omega
  obtain ⟨v6, H4, hins, ho6, fr4, hb6⟩ := q_insert l v5 ⟨id, tm⟩ H2.n p H3 (ho5.still s3) (by omega) hp0 (by omega) f3 hne5
  have hins : CC F.slices_Insert_alarm [v5, .int .i64 p, .slice (some ⟨H2.n, 0, none⟩) 1 2] H3 = some (v6, H4) := hins
  have fb3 : H3.f b = .cells [.bool true, .int .i64 now, v] T.clock_Clock true := by rw [s3.f (by omega) (fun h => h), fb2]
  have hb5 : blockOf v5 ≠ some b := fun h => by have := hn5 b h; omega
  have hone6 : one v6 = true := ho6.cell
  have fb4 : H4.f b = .cells [.bool true, .int .i64 now, v] T.clock_Clock true := by rw [fr4.f (by omega) hb5, fb3]
  have n4 : H3.n ≤ H4.n := fr4.n
  generalize hH5 : H4.set b (.cells [.bool true, .int .i64 now, v6] T.clock_Clock true) = H5
  have f5 : Fr (fun x => x = b) H H5 := by
    rw [← hH5]
    refine Fr.set ?_ b _ (fun _ => rfl)
    exact ((((s1.then s2 fun _ _ h => h).then s3 fun _ _ h => h).then fr4 fun c hc h => by have := hn5 c h; omega).mono fun _ _ h => h.elim)
  refine ⟨H5, (d_clock_Clock_Set _ _ _ H (r := (.int .i64 0, H5)) ?_).trans (congrArg some (tidy_turned h2 (ok b) ?_)), ?_, f5⟩
  · simp (disch := first | with_reducible rfl | assumption | omega | rfl | (simp only [go_sem]; first | done | omega)) only [go_sem, ↓reduceIte, reduceCtorEq, Nat.reduceEqDiff, Nat.reduceAdd, Nat.reduceSub, Nat.reduceMul, Nat.reduceDiv, Nat.reduceMod, Nat.reduceLeDiff, Nat.reduceLT, Nat.reduceBEq, Int.reduceEq, Int.reduceBEq, Int.reduceBNe, Int.reduceLT, Int.reduceLE, Int.reduceAdd, Int.reduceSub, Int.reduceNeg, Int.reduceToNat, Int.reducePow, Nat.reducePow, Int.reduceMul, Int.reduceDiv, ↓s_clock_Clock_Set, enterK_eq (q_zero b true _ _ H h1), hid', e_clock_tick, ht, enterK_eq hfd, hf, h1, hlen, hfull, hH1, f1, fb1, enterK_eq hbs, enterK_eq hcl, f2, hH3, enterK_eq hins, fb4, hH5]
  · rw [← hH5, set_v_eq]
    exact Nat.le_trans s1.clk (Nat.le_trans s2.clk (Nat.le_trans s3.clk fr4.clk))
  · refine ⟨v6, by rw [← hH5]; exact set_f_eq, by rw [← hH5]; simp; omega, ?_, ?_⟩
    · rw [← hH5]
      refine ho6.keep (S := fun x => x = b) (Fr.set (Fr.refl H4) b _ fun _ => rfl) ?_
      intro c hc h
      subst h
      rcases hb6 with h' | ⟨x, h', hx⟩
      · rw [h'] at hc; exact hb5 hc
      · rw [h'] at hc; cases hc; omega
    · intro h
      rcases hb6 with h' | ⟨x, h', hx⟩
      · rw [h'] at h; exact hb5 h
      · rw [h'] at h; cases h; omega

theorem q_Clear_none (b : Nat) (now id : Int) (l : List Al) (H : AHeap) (r : Clk H b now l) (hl : l.length < 4611686018427387904) (hf : idxFrom id l 0 < 0) : CC F.clock_Clock_Clear [.pointer (some ⟨b, 0, none⟩), .int .i64 id] H = some (.int .i64 9, H) := by
  have hfd := q_find b now l id H r hl
  obtain ⟨v, h1, h2, h3, h4⟩ := r
  apply pure_of _ (d_clock_Clock_Clear _ _ H) rfl
  rotate_left 2
  · simp (disch := first | with_reducible rfl | assumption | omega | rfl | (simp only [go_sem]; first | done | omega)) only [go_sem, ↓reduceIte, reduceCtorEq, Nat.reduceEqDiff, Nat.reduceAdd, Nat.reduceSub, Nat.reduceMul, Nat.reduceDiv, Nat.reduceMod, Nat.reduceLeDiff, Nat.reduceLT, Nat.reduceBEq, Int.reduceEq, Int.reduceBEq, Int.reduceBNe, Int.reduceLT, Int.reduceLE, Int.reduceAdd, Int.reduceSub, Int.reduceNeg, Int.reduceToNat, Int.reducePow, Nat.reducePow, Int.reduceMul, Int.reduceDiv, ↓s_clock_Clock_Clear, enterK_eq (q_zero b true _ _ H h1), enterK_eq hfd, hf]
    rfl
  · (repeat (first | exact Fr.refl _ | refine Fr.push ?_ _ | refine Fr.set ?_ _ _ (by intro h; first | omega | (simp only [go_sem] at h; omega))))

theorem q_Clear (b : Nat) (now id : Int) (l : List Al) (H : AHeap) (ok : Ok H) (r : Clk H b now l) (hl : l.length ≤ 8796093022206) (i : Nat) (hi : i < l.length) (hf : idxFrom id l 0 = i) :
    ∃ H', CC F.clock_Clock_Clear [.pointer (some ⟨b, 0, none⟩), .int .i64 id] H = some (.int .i64 0, H') ∧ Clk H' b now (l.take i ++ l.drop (i + 1)) ∧ Fr (fun x => x = b) H H' := by
  have hfd := q_find b now l id H r (by omega)
  rw [hf] at hfd
  obtain ⟨v, h1, h2, h3, h4⟩ := r
  have hneg : ¬ (i : Int) < 0 := by omega
  obtain ⟨v5, H2, hcl, ho5, s2, hn5⟩ := q_clone l v H h3.rd (by omega)
  have n2 : H.n ≤ H2.n := s2.n
  have fb2 : H2.f b = .cells [.bool true, .int .i64 now, v] T.clock_Clock true := by rw [s2.f h2 (fun h => h), h1]
  obtain ⟨v6, H4, hdel, ho6, fr4, hb6⟩ := q_delete l v5 i H2 ho5 (by omega) hi
  have hone6 : one v6 = true := ho6.cell
  have hb5 : blockOf v5 ≠ some b := fun h => by have := hn5 b h; omega
  have fb4 : H4.f b = .cells [.bool true, .int .i64 now, v] T.clock_Clock true := by rw [fr4.f (by omega) hb5, fb2]
  have n4 : H2.n ≤ H4.n := fr4.n
  generalize hH5 : H4.set b (.cells [.bool true, .int .i64 now, v6] T.clock_Clock true) = H5
  have f5 : Fr (fun x => x = b) H H5 := by
    rw [← hH5]
    refine Fr.set ?_ b _ (fun _ => rfl)
    exact ((s2.then fr4 fun c hc h => by have := hn5 c h; omega).mono fun _ _ h => h.elim)
  refine ⟨H5, (d_clock_Clock_Clear _ _ H (r := (.int .i64 0, H5)) ?_).trans (congrArg some (tidy_turned h2 (ok b) ?_)), ?_, f5⟩
  · simp (disch := first | with_reducible rfl | assumption | omega | rfl | (simp only [go_sem]; first | done | omega)) only [go_sem, ↓reduceIte, reduceCtorEq, Nat.reduceEqDiff, Nat.reduceAdd, Nat.reduceSub, Nat.reduceMul, Nat.reduceDiv, Nat.reduceMod, Nat.reduceLeDiff, Nat.reduceLT, Nat.reduceBEq, Int.reduceEq, Int.reduceBEq, Int.reduceBNe, Int.reduceLT, Int.reduceLE, Int.reduceAdd, Int.reduceSub, Int.reduceNeg, Int.reduceToNat, Int.reducePow, Nat.reducePow, Int.reduceMul, Int.reduceDiv, ↓s_clock_Clock_Clear, enterK_eq (q_zero b true _ _ H h1), enterK_eq hfd, hneg, h1, enterK_eq hcl, enterK_eq hdel, fb4, hH5]
  · rw [← hH5, set_v_eq]
    exact Nat.le_trans s2.clk fr4.clk
  · refine ⟨v6, by rw [← hH5]; exact set_f_eq, by rw [← hH5]; simp; omega, ?_, by rw [hb6]; exact hb5⟩
    rw [← hH5]
    refine ho6.keep (S := fun x => x = b) (Fr.set (Fr.refl H4) b _ fun _ => rfl) ?_
    intro c hc h
    subst h
    rw [hb6] at hc
    exact hb5 hc

theorem q_Tick_bad (b : Nat) (now n : Int) (l : List Al) (H : AHeap) (r : Clk H b now l) (h : ¬ (isTick now = true ∧ 0 ≤ n)) : CC F.clock_Clock_Tick [.pointer (some ⟨b, 0, none⟩), .int .i64 n] H = some (.tuple #[.slice none 0 0, .int .i64 2], H) := by
  obtain ⟨v, h1, h2, h3, h4⟩ := r
  apply pure_of _ (d_clock_Clock_Tick _ _ H) rfl
  rotate_left 2
  · simp (disch := first | with_reducible rfl | assumption | omega | rfl | (simp only [go_sem]; first | done | omega)) only [go_sem, ↓reduceIte, reduceCtorEq, Nat.reduceEqDiff, Nat.reduceAdd, Nat.reduceSub, Nat.reduceMul, Nat.reduceDiv, Nat.reduceMod, Nat.reduceLeDiff, Nat.reduceLT, Nat.reduceBEq, Int.reduceEq, Int.reduceBEq, Int.reduceBNe, Int.reduceLT, Int.reduceLE, Int.reduceAdd, Int.reduceSub, Int.reduceNeg, Int.reduceToNat, Int.reducePow, Nat.reducePow, Int.reduceMul, Int.reduceDiv, ↓s_clock_Clock_Tick, enterK_eq (q_zero b true _ _ H h1), h1, enterK_eq (q_clock_Due_bad now n H h)]
    rfl
  · (repeat (first | exact Fr.refl _ | refine Fr.push ?_ _ | refine Fr.set ?_ _ _ (by intro h; first | omega | (simp only [go_sem] at h; omega))))

theorem q_Tick (b : Nat) (now n : Int) (l : List Al) (H : AHeap) (ok : Ok H) (r : Clk H b now l) (hl : l.length ≤ 8796093022206) (ht : isTick now = true) (hn : 0 ≤ n) (p : Nat) (hp : Pos l ⟨-1, min (due now n + 1) 4611686018427387904⟩ p) :
    ∃ v' H', CC F.clock_Clock_Tick [.pointer (some ⟨b, 0, none⟩), .int .i64 n] H = some (.tuple #[v', .int .i64 0], H') ∧ Own EAl H' T.api_Alarm v' (l.take p) ∧ Clk H' b (due now n) (l.drop p) ∧ Fr (fun x => x = b) H H' ∧ New H v' := by
  obtain ⟨v, h1, h2, h3, h4⟩ := r
  obtain ⟨hp0, hp1, hp2⟩ := hp
  obtain ⟨ht1, ht2⟩ := isTick_iff.1 ht
  have hdue : 0 ≤ due now n ∧ due now n ≤ 4611686018427387904 := by unfold due; split <;> omega
  have hD := q_clock_Due now n H ht hn
  generalize due now n = nw at *
  generalize hH1 : H.set b (.cells [.bool true, .int .i64 nw, v] T.clock_Clock true) = H1
  have fr1 : Fr (fun x => x = b) H H1 := by rw [← hH1]; exact Fr.set (Fr.refl H) b _ fun _ => rfl
  have hoff : Off (fun x => x = b) v := fun c hc h => h4 (h ▸ hc)
  have f1 : H1.f b = .cells [.bool true, .int .i64 nw, v] T.clock_Clock true := by rw [← hH1]; exact set_f_eq
  have n1 : H1.n = H.n := by rw [← hH1]; rfl
  have o1 : Own EAl H1 T.clock_alarm v l := h3.keep fr1 hoff
  obtain ⟨is, hbs⟩ := q_bs l v ⟨-1, min (nw + 1) 4611686018427387904⟩ H1 o1.rd (by omega) p hp0 hp1 hp2
  have hbs : CC F.slices_BinarySearchFunc_alarm [v, .agg #[.int .i64 (-1), .int .i64 (min (nw + 1) 4611686018427387904)], .func (.func F.clock_alarm_compare) #[] #[]] H1 = some (.tuple #[.int .i64 p, .bool is], H1) := hbs
  obtain ⟨v7, e7, r7, b7⟩ := o1.front (sz := 2) (q := .i64) rfl hp0
  obtain ⟨v8, e8, o8, b8⟩ := o1.drop (sz := 2) (q := .i64) rfl hp0
  have hone8 : one v8 = true := o8.cell
  generalize hH2 : H1.set b (.cells [.bool true, .int .i64 nw, v8] T.clock_Clock true) = H2
  have fr2 : Fr (fun x => x = b) H1 H2 := by rw [← hH2]; exact Fr.set (Fr.refl H1) b _ fun _ => rfl
  have hoff7 : Off (fun x => x = b) v7 := fun c hc h => h4 (by rw [← b7, hc, h])
  have hoff8 : Off (fun x => x = b) v8 := fun c hc h => h4 (by rw [← b8, hc, h])
  obtain ⟨v', H', hout, r1, r2, r3⟩ := q_out (l.take p) v7 H2 (r7.keep fr2 hoff7) (by simp; omega)
  have f2 : H2.f b = .cells [.bool true, .int .i64 nw, v8] T.clock_Clock true := by rw [← hH2]; exact set_f_eq
  have n2 : H2.n = H1.n := by rw [← hH2]; rfl
  have fr : Fr (fun x => x = b) H H' := (fr1.trans fr2).trans r2.still
  refine ⟨v', H', (d_clock_Clock_Tick _ _ H (r := (.tuple #[v', .int .i64 0], H')) ?_).trans (congrArg some (tidy_turned h2 (ok b) ?_)), r1, ?_, fr, fun c hc => by have := r3 c hc; omega⟩
  · simp (disch := first | with_reducible rfl | assumption | omega | rfl | (simp only [go_sem]; first | done | omega)) only [go_sem, ↓reduceIte, reduceCtorEq, Nat.reduceEqDiff, Nat.reduceAdd, Nat.reduceSub, Nat.reduceMul, Nat.reduceDiv, Nat.reduceMod, Nat.reduceLeDiff, Nat.reduceLT, Nat.reduceBEq, Int.reduceEq, Int.reduceBEq, Int.reduceBNe, Int.reduceLT, Int.reduceLE, Int.reduceAdd, Int.reduceSub, Int.reduceNeg, Int.reduceToNat, Int.reducePow, Nat.reducePow, Int.reduceMul, Int.reduceDiv, ↓s_clock_Clock_Tick, enterK_eq (q_zero b true _ _ H h1), h1, enterK_eq hD, hH1, f1, enterK_eq hbs, e7, e8, hH2, enterK_eq hout]
  · have hv2 : H1.clk ≤ H2.ver b := by rw [← hH2, set_v_eq]; exact Nat.le_refl _
    rw [r2.ver (by omega) (fun h => h)]
    exact Nat.le_trans fr1.clk hv2
  · refine Clk.still ?_ r2
    exact ⟨v8, f2, by omega, o8.keep fr2 hoff8, by rw [b8]; exact h4⟩

theorem q_Copy (b : Nat) (now : Int) (l : List Al) (H : AHeap) (r : Clk H b now l) (hl : l.length ≤ 8796093022206) :
    ∃ b' H', CC F.clock_Clock_Copy [.pointer (some ⟨b, 0, none⟩)] H = some (.pointer (some ⟨b', 0, none⟩), H') ∧ Clk H' b' now l ∧ Still H H' ∧ H.n ≤ b' := by
  obtain ⟨v, h1, h2, h3, h4⟩ := r
  obtain ⟨v5, H2, hcl, ho5, s2, hn5⟩ := q_clone l v H h3.rd (by omega)
  have n2 : H.n ≤ H2.n := s2.n
  have hver : H2.ver b = H.ver b := s2.ver h2 (fun h => h)
  refine ⟨H2.n, H2.push (.cells [.bool true, .int .i64 now, v5] T.clock_Clock true), (d_clock_Clock_Copy _ H (r := (.pointer (some ⟨H2.n, 0, none⟩), _)) ?_).trans (congrArg some (tidy_mem rfl)), ?_, s2.push _, n2⟩
  · have hne5 : ∀ a n c, v5 = .slice a n c → True := fun _ _ _ _ => trivial
    obtain ⟨a, n, c, hv5⟩ : ∃ a n c, v5 = .slice a n c := by
      rcases ho5 with ⟨_, h⟩ | ⟨_, a, h, _⟩ | ⟨b, o, c, xs, h, _⟩ <;> exact ⟨_, _, _, h⟩
    subst hv5
    simp (disch := first | with_reducible rfl | assumption | omega | rfl | (simp only [go_sem]; first | done | omega)) only [go_sem, ↓reduceIte, reduceCtorEq, Nat.reduceEqDiff, Nat.reduceAdd, Nat.reduceSub, Nat.reduceMul, Nat.reduceDiv, Nat.reduceMod, Nat.reduceLeDiff, Nat.reduceLT, Nat.reduceBEq, Int.reduceEq, Int.reduceBEq, Int.reduceBNe, Int.reduceLT, Int.reduceLE, Int.reduceAdd, Int.reduceSub, Int.reduceNeg, Int.reduceToNat, Int.reducePow, Nat.reducePow, Int.reduceMul, Int.reduceDiv, ↓s_clock_Clock_Copy, enterK_eq (q_zero b true _ _ H h1), h1, enterK_eq hcl]
  · refine ⟨v5, push_f_eq rfl, by simp, ho5.still ((Fr.refl _).push _), fun h => by have := ho5.blk h; omega⟩

end Go.Proofs.Ytldgonjihhndgaa

/-
  The engine, part 26: structs of plain fields, compared.
  Conditions: none. By an AI agent.
-/
namespace Go.Proofs.Ytldgonjihhndgaa.Eng
open Go
set_option linter.unusedVariables false
set_option linter.unusedSimpArgs false

variable {P : Program} {H : AHeap}

theorem pv_bind {α β : Type} {P : Program} : ∀ (s : Sem α) (f : α → Sem β), pv P (s.bind f) = (pv P s).bind fun a => pv P (f a)
  | .pure a, f => rfl
  | .program k, f => pv_bind (k P) f
  | .load m a k, f => rfl
  | .store m a v k, f => rfl
  | .new o k, f => rfl
  | .shape r k, f => rfl
  | .freeze a n k, f => rfl
  | .frozen a k, f => rfl
  | .getObj r k, f => rfl
  | .setObj r o k, f => rfl
  | .choose q k, f => rfl
  | .sys c k, f => rfl
  | .mark m k, f => rfl
  | .halt h, f => rfl
theorem pv_bind' {α β : Type} (s : Sem α) (f : α → Sem β) : pv P (s >>= f) = (pv P s).bind fun a => pv P (f a) := pv_bind s f
theorem pv_pure {α : Type} (a : α) : pv P (pure a : Sem α) = some a := rfl
theorem pv_program : pv P program = some P := rfl
theorem pv_ite {α : Type} {c : Prop} [Decidable c] (a b : Sem α) : pv P (if c then a else b) = if c then pv P a else pv P b := by split <;> rfl
theorem pv_und {t : TypeId} {d : TypeDesc} (h : P.underlying t = some d) : pv P (underlying t) = some d := by
  unfold underlying
  simp only [pv_bind', pv_program, Option.bind_some, h]
  rfl

def ceq : Value → Value → Bool
  | .int _ a, .int _ b => decide (a = b)
  | .string a, .string b => decide (bl a = bl b)
  | .bool a, .bool b => a == b
  | _, _ => false

def ceqs : List Value → List Value → Bool
  | [], [] => true
  | a :: x, b :: y => ceq a b && ceqs x y
  | _, _ => false

def fitC (P : Program) (t : TypeId) (v w : Value) : Bool :=
  match P.underlying t, v, w with
  | some (.int _), .int k _, .int k' _ => k == k'
  | some .string, .string _, .string _ => true
  | some .bool, .bool _, .bool _ => true
  | _, _, _ => false

def fits (P : Program) : List Field → Nat → List Value → List Value → Bool
  | [], _, [], [] => true
  | f :: fs, i, a :: x, b :: y => f.name != "_" && f.offset == i && fitC P f.type a b && fits P fs (i + 1) x y
  | _, _, _, _ => false

theorem bytes_beq (a b : ByteArray) : (a == b) = decide (bl a = bl b) := by
  rw [beq_toListBytes, ByteArray.toList_eq, ByteArray.toList_eq, Bool.beq_eq_decide_eq]
  rfl

theorem pv_cell {t : TypeId} {d : Nat} {a b : Value} (h : fitC P t a b = true) : pv P (Op.equalIn (d + 1) t a b) = some (ceq a b) := by
  unfold fitC at h
  split at h
  · rename_i k k1 x k2 y hu
    have hk : k1 = k2 := by simpa using h
    subst hk
    simp only [Op.equalIn, pv_bind', pv_und hu, Option.bind_some, if_true, pv_pure, ceq, Bool.beq_eq_decide_eq]
  · rename_i x y hu
    simp only [Op.equalIn, pv_bind', pv_und hu, Option.bind_some, pv_pure, ceq, bytes_beq]
  · rename_i x y hu
    simp only [Op.equalIn, pv_bind', pv_und hu, Option.bind_some, pv_pure, ceq]
  · cases h

theorem pv_part {t : TypeId} {a b : Value} (h : fitC P t a b = true) {xs : Array Value} {o : Nat} {v : Value} (hx : xs[o]? = some v) : pv P (part t xs o) = some v := by
  have hagg : pv P (isAgg t) = some false := by
    unfold isAgg
    unfold fitC at h
    split at h
    · rename_i hu; simp only [pv_bind', pv_und hu, Option.bind_some]; rfl
    · rename_i hu; simp only [pv_bind', pv_und hu, Option.bind_some]; rfl
    · rename_i hu; simp only [pv_bind', pv_und hu, Option.bind_some]; rfl
    · cases h
  unfold part
  simp only [pv_bind', hagg, Option.bind_some, Bool.false_eq_true, if_false, hx, pv_pure]

theorem pv_eqFields {d : Nat} : ∀ (fs : List Field) (i : Nat) (xs ys : Array Value) (x y : List Value), (∀ j, xs[i + j]? = x[j]?) → (∀ j, ys[i + j]? = y[j]?) → fits P fs i x y = true →
    pv P (Op.eqFields (d + 1) xs ys fs) = some (ceqs x y)
  | [], i, xs, ys, [], [], _, _, _ => rfl
  | f :: fs, i, xs, ys, a :: x, b :: y, hx, hy, h => by
    simp only [fits, Bool.and_eq_true, bne_iff_ne, ne_eq, beq_iff_eq] at h
    obtain ⟨⟨⟨h1, h2⟩, h3⟩, h4⟩ := h
    have ha : xs[i]? = some a := by simpa using hx 0
    have hb : ys[i]? = some b := by simpa using hy 0
    have ih := pv_eqFields (d := d) fs (i + 1) xs ys x y (fun j => by rw [show i + 1 + j = i + (j + 1) by omega, hx]; rfl) (fun j => by rw [show i + 1 + j = i + (j + 1) by omega, hy]; rfl) h4
    rw [Op.eqFields]
    simp only [ne_eq, h1, not_false_eq_true, if_true, pv_bind', h2, pv_part h3 ha, pv_part h3 hb, Option.bind_some, pv_cell h3, pv_ite, pv_pure, ih, ceqs]
    cases ceq a b <;> simp
  | [], _, _, _, _ :: _, _, _, _, h => by simp [fits] at h
  | [], _, _, _, [], _ :: _, _, _, h => by simp [fits] at h
  | _ :: _, _, _, _, [], _, _, _, h => by simp [fits] at h
  | _ :: _, _, _, _, _ :: _, [], _, _, h => by simp [fits] at h

theorem pv_equalIn_struct {d : Nat} {t : TypeId} {fs : Array Field} (xs ys : Array Value) (ht : P.underlying t = some (.struct fs)) (hp : P.stoodInHeld t = false) :
    pv P (Op.equalIn (d + 1) t (.agg xs) (.agg ys)) = pv P (Op.eqFields d xs ys fs.toList) := by
  simp only [Op.equalIn, pv_bind', pv_und ht, pv_program, Option.bind_some, hp, Bool.false_eq_true, if_false]
  rw [← Array.forIn_toList]
  generalize fs.toList = l
  clear ht
  induction l with
  | nil => simp [Op.eqFields, pv_pure]
  | cons f l ih =>
    simp only [List.forIn_cons, Op.eqFields, pv_bind', pv_ite]
    split
    · cases pv P (part f.type xs f.offset) with
      | none => rfl
      | some a =>
        simp only [Option.bind_some]
        cases pv P (part f.type ys f.offset) with
        | none => rfl
        | some b =>
          simp only [Option.bind_some]
          cases pv P (Op.equalIn d f.type a b) with
          | none => rfl
          | some r =>
            cases r
            · simp [pv_pure]
            · simp only [Option.bind_some, Bool.not_true, Bool.false_eq_true, if_false, pv_pure]
              exact ih
    · simp only [pv_pure, Option.bind_some]
      exact ih

theorem pv_equal {t : TypeId} {fs : Array Field} {xs ys : List Value} (ht : P.underlying t = some (.struct fs)) (hp : P.stoodInHeld t = false) (hf : fits P fs.toList 0 xs ys = true) :
    pv P (Op.equal t (.agg ⟨xs⟩) (.agg ⟨ys⟩)) = some (ceqs xs ys) := by
  have h := pv_equalIn_struct (P := P) (d := 9999) (t := t) ⟨xs⟩ ⟨ys⟩ ht hp
  have h2 := pv_eqFields (P := P) (d := 9998) fs.toList 0 ⟨xs⟩ ⟨ys⟩ xs ys (fun j => by simp) (fun j => by simp) hf
  exact h.trans h2

theorem agg_eq {t : TypeId} {fs : Array Field} {xs ys : List Value} {ox oy : Operand} (ht : P.underlying t = some (.struct fs)) (hp : P.stoodInHeld t = false) (hg : P.eqGuardType P.depth t = false) (hf : fits P fs.toList 0 xs ys = true)
    (g1 : gr 9 (.agg ⟨xs⟩) = true) (g2 : gr 9 (.agg ⟨ys⟩) = true) : xbin P .eql t ox oy (.agg ⟨xs⟩) (.agg ⟨ys⟩) = some (.bool (ceqs xs ys)) := by
  have e : xbin P .eql t ox oy (.agg ⟨xs⟩) (.agg ⟨ys⟩) = if gr 9 (.agg ⟨xs⟩) && gr 9 (.agg ⟨ys⟩) then pvg P (do eqGuard .eql t ox oy (.agg ⟨xs⟩) (.agg ⟨ys⟩); binOp .eql t (.agg ⟨xs⟩) (.agg ⟨ys⟩)) else (nilTest P t (.agg ⟨xs⟩) (.agg ⟨ys⟩)).map .bool := rfl
  rw [e, g1, g2]
  simp only [Bool.and_self, if_true]
  refine pvg_some ?_ rfl
  simp only [eqGuard, binOp, pv_bind', pv_program, Option.bind_some, hg, Bool.not_false, if_true, pv_pure, Bool.not_true, Bool.false_eq_true, if_false, pv_equal ht hp hf]
theorem agg_ne {t : TypeId} {fs : Array Field} {xs ys : List Value} {ox oy : Operand} (ht : P.underlying t = some (.struct fs)) (hp : P.stoodInHeld t = false) (hg : P.eqGuardType P.depth t = false) (hf : fits P fs.toList 0 xs ys = true)
    (g1 : gr 9 (.agg ⟨xs⟩) = true) (g2 : gr 9 (.agg ⟨ys⟩) = true) : xbin P .neq t ox oy (.agg ⟨xs⟩) (.agg ⟨ys⟩) = some (.bool (!ceqs xs ys)) := by
  have e : xbin P .neq t ox oy (.agg ⟨xs⟩) (.agg ⟨ys⟩) = if gr 9 (.agg ⟨xs⟩) && gr 9 (.agg ⟨ys⟩) then pvg P (do eqGuard .neq t ox oy (.agg ⟨xs⟩) (.agg ⟨ys⟩); binOp .neq t (.agg ⟨xs⟩) (.agg ⟨ys⟩)) else (nilTest P t (.agg ⟨xs⟩) (.agg ⟨ys⟩)).map fun b => .bool !b := rfl
  rw [e, g1, g2]
  simp only [Bool.and_self, if_true]
  refine pvg_some ?_ rfl
  simp only [eqGuard, binOp, pv_bind', pv_program, Option.bind_some, hg, Bool.not_false, if_true, pv_pure, Bool.not_true, Bool.false_eq_true, if_false, pv_equal ht hp hf]

/-! ### With fuel again: for what the kernel can reckon -/
def finLP (n : Nat) : LoopH := fun body keep T H k => dLoopK body keep n T H k

theorem dCodeL_fin {P : Program} {N n : Nat} {call : CallF} : ∀ (c : DCode), PieceK (dCode P N call n c) (dCodeL stdL P N call (finLP n) c)
  | .skip => fun _ _ _ => rfl
  | .region id ops draw => fun T H k => dCodeK_eq (P := P) (N := N) (call := call) (n := n) (.region id ops draw) T H k
  | .seq a b => fun T H k => by
    rw [dCodeL, dCode, dCodeL_fin a]
    cases dCode P N call n a T H with
    | none => rfl
    | some r =>
      obtain ⟨e, T', H'⟩ := r
      cases e with
      | normal => simp only [Option.bind_some, seqK]; exact dCodeL_fin b T' H' k
      | exit i => rfl
      | ret => rfl
  | .cond keep c x y => fun T H k => by
    rw [dCodeL, dCode, stdL_c]
    unfold condL
    cases ev T c with
    | bool b =>
      cases b with
      | true =>
        have hx := dCodeL_fin (P := P) (N := N) (call := call) (n := n) x T H (afterK keep k)
        simp only [if_true]
        rw [hx]
        cases dCode P N call n x T H with
        | none => rfl
        | some r => obtain ⟨e, T', H'⟩ := r; cases e <;> rfl
      | false =>
        have hy := dCodeL_fin (P := P) (N := N) (call := call) (n := n) y T H (afterK keep k)
        simp only [Bool.false_eq_true, if_false]
        rw [hy]
        cases dCode P N call n y T H with
        | none => rfl
        | some r => obtain ⟨e, T', H'⟩ := r; cases e <;> rfl
    | _ => rfl
  | .block keep id b => fun T H k => by
    rw [dCodeL, dCode, stdL_s]
    unfold shareL
    dsimp only
    rw [dCodeL_fin b]
    cases dCode P N call n b T H with
    | none => rfl
    | some r =>
      obtain ⟨e, T', H'⟩ := r
      cases e with
      | normal => rfl
      | exit j => simp only [Option.bind_some, Option.map_some, blkK]; split <;> rfl
      | ret => rfl
  | .loop keep b => fun T H k => by
    rw [dCodeL, dCode]
    exact dLoopK_eq (dCodeL_fin b) keep n T H k
  | .exit id => fun _ _ _ => rfl
  | .ret keep => fun _ _ _ => rfl
  | .bad c => fun _ _ _ => rfl

theorem dBody_fin {hints : Hints} {call : CallF} {n : Nat} {f : FuncId} {args : List Value} : dBody P hints call n f args H = dBodyL stdL P hints call (finLP n) f args H := by
  unfold dBody dBodyL
  cases hf : P.funcs[f]? with
  | none => rfl
  | some fn =>
    simp only
    cases hb : fn.body with
    | none => rfl
    | some c =>
      simp only
      rw [dCodeL_fin]
      congr 1
      funext r
      obtain ⟨x, T, H⟩ := r
      cases x with
      | normal => simp only [endK]; rw [resValsK_eq]; cases resVals P H T _ <;> rfl
      | exit i => rfl
      | ret => simp only [endK]; rw [resValsK_eq]; cases resVals P H T _ <;> rfl

/-- A law's run, by the value alone. -/
theorem run_fst {prims : Prims} {hints : Hints} {n : Nat} {f : FuncId} {args : List Value} (hp : prims f = none) (h : (dBodyL stdL P hints (dCall P prims hints n) (finLP n) f args H).map (·.1) = some (.bool true)) :
    ∃ k H', dCall P prims hints k f args H = some (.bool true, H') := by
  refine ⟨n + 1, ?_⟩
  have e : dCall P prims hints (n + 1) f args H = (dBody P hints (dCall P prims hints n) n f args H).map (tidy H) := by simp only [dCall, hp]
  rw [e, dBody_fin]
  cases hq : dBodyL stdL P hints (dCall P prims hints n) (finLP n) f args H with
  | none => rw [hq] at h; cases h
  | some r =>
    rw [hq] at h
    obtain ⟨v, H1⟩ := r
    simp at h
    subst h
    simp only [Option.map_some, tidy]
    split <;> exact ⟨_, rfl⟩

end Go.Proofs.Ytldgonjihhndgaa.Eng

/-
  Chapter 02: the reference's comparison of lists; the statement's ticks.
  Conditions: none. By an AI agent.
-/
set_option maxRecDepth 10000
set_option linter.unusedSimpArgs false
set_option linter.unusedVariables false
namespace Go.Proofs.Ytldgonjihhndgaa
open Go Eng

theorem alarm_ne {ox oy : Operand} {a b c d : Int} : xbin Try.prog .neq T.api_Alarm ox oy (.agg #[.int .i64 a, .int .i64 b]) (.agg #[.int .i64 c, .int .i64 d]) = some (.bool (!(decide (a = c) && decide (b = d)))) := by
  have h := agg_ne (P := Try.prog) (t := T.api_Alarm) (xs := [.int .i64 a, .int .i64 b]) (ys := [.int .i64 c, .int .i64 d]) (ox := ox) (oy := oy) Try.underlying39 (by kernel_rfl) (by kernel_rfl) (by kernel_rfl) rfl rfl
  rw [h]
  simp [ceqs, ceq]
theorem alarm_eq {ox oy : Operand} {a b c d : Int} : xbin Try.prog .eql T.api_Alarm ox oy (.agg #[.int .i64 a, .int .i64 b]) (.agg #[.int .i64 c, .int .i64 d]) = some (.bool (decide (a = c) && decide (b = d))) := by
  have h := agg_eq (P := Try.prog) (t := T.api_Alarm) (xs := [.int .i64 a, .int .i64 b]) (ys := [.int .i64 c, .int .i64 d]) (ox := ox) (oy := oy) Try.underlying39 (by kernel_rfl) (by kernel_rfl) (by kernel_rfl) rfl rfl
  rw [h]
  simp [ceqs, ceq]

theorem al_ext {a b : Al} : a = b ↔ a.id = b.id ∧ a.tm = b.tm := by
  cases a; cases b; simp

theorem l_same (l m : List Al) (v u : Value) (H : AHeap) (hv : Rd EAl H v l) (hu : Rd EAl H u m) (hlen : l.length = m.length) (hl : l.length < 1152921504606846976) (K : K) : ∀ (d i : Nat), l.length - i = d → i ≤ l.length →
    l_ref02_Same_0 v u (.int .i64 i) H (blkK [] 0 (seqK (fun _ h5 => K .ret [(4, .bool true)] h5) K)) = K .ret [(4, .bool (decide (l.drop i = m.drop i)))] H
  | 0, i, hd, hi => by
    have h : i = l.length := by omega
    subst h
    have hlt : ¬ (l.length : Int) < (l.length : Int) := by omega
    have hl1 := hv.lenS
    rw [r_ref02_Same_0]
    have e : decide (l.drop l.length = m.drop l.length) = true := by rw [List.drop_length, hlen, List.drop_length]; rfl
    simp (disch := first | with_reducible rfl | assumption | omega | rfl | (simp only [go_sem]; first | done | omega)) only [go_sem, ↓reduceIte, reduceCtorEq, Nat.reduceEqDiff, Nat.reduceAdd, Nat.reduceSub, Nat.reduceMul, Nat.reduceDiv, Nat.reduceMod, Nat.reduceLeDiff, Nat.reduceLT, Nat.reduceBEq, Int.reduceEq, Int.reduceBEq, Int.reduceBNe, Int.reduceLT, Int.reduceLE, Int.reduceAdd, Int.reduceSub, Int.reduceNeg, Int.reduceToNat, Int.reducePow, Nat.reducePow, Int.reduceMul, Int.reduceDiv, ↓s_ref02_Same_b0, hl1, hlt, e]
  | d + 1, i, hd, hi => by
    have h : i < l.length := by omega
    have h' : i < m.length := by omega
    have hlt : (i : Int) < (l.length : Int) := by omega
    have hl1 := hv.lenS
    obtain ⟨b, o, hix, hb, hc, _⟩ := hv.ix (q := .i64) h
    obtain ⟨b2, o2, hix2, hb2, hc2, _⟩ := hu.ix (q := .i64) h'
    have hix : ixS 2 v (.int .i64 i) = some (.pointer (some ⟨b, o, none⟩)) := hix
    have hc : cutB (H.f b) o 2 = some [.int .i64 l[i].id, .int .i64 l[i].tm] := hc
    have hix2 : ixS 2 u (.int .i64 i) = some (.pointer (some ⟨b2, o2, none⟩)) := hix2
    have hc2 : cutB (H.f b2) o2 2 = some [.int .i64 m[i].id, .int .i64 m[i].tm] := hc2
    have ih := l_same l m v u H hv hu hlen hl K d (i + 1) (by omega) h
    rw [Int.natCast_add] at ih
    rw [List.drop_eq_getElem_cons h, List.drop_eq_getElem_cons h', r_ref02_Same_0]
    by_cases he : l[i] = m[i]
    · have e1 : (!(decide (l[i].id = m[i].id) && decide (l[i].tm = m[i].tm))) = false := by rw [he]; simp
      have e2 : decide (l[i] :: l.drop (i + 1) = m[i] :: m.drop (i + 1)) = decide (l.drop (i + 1) = m.drop (i + 1)) := by
        rw [he]
        exact decide_eq_decide.2 ⟨fun h => (List.cons.inj h).2, fun h => by rw [h]⟩
      rw [e2, ← ih]
      simp (disch := first | with_reducible rfl | assumption | omega | rfl | (simp only [go_sem]; first | done | omega)) only [go_sem, ↓reduceIte, reduceCtorEq, Nat.reduceEqDiff, Nat.reduceAdd, Nat.reduceSub, Nat.reduceMul, Nat.reduceDiv, Nat.reduceMod, Nat.reduceLeDiff, Nat.reduceLT, Nat.reduceBEq, Int.reduceEq, Int.reduceBEq, Int.reduceBNe, Int.reduceLT, Int.reduceLE, Int.reduceAdd, Int.reduceSub, Int.reduceNeg, Int.reduceToNat, Int.reducePow, Nat.reducePow, Int.reduceMul, Int.reduceDiv, ↓s_ref02_Same_b0, hl1, hlt, hix, hc, hix2, hc2, alarm_ne, e1]
    · have e1 : (!(decide (l[i].id = m[i].id) && decide (l[i].tm = m[i].tm))) = true := by
        rw [al_ext] at he
        simp only [Bool.not_eq_true', Bool.and_eq_false_iff, decide_eq_false_iff_not]
        by_cases h1 : l[i].id = m[i].id
        · exact .inr fun h2 => he ⟨h1, h2⟩
        · exact .inl h1
      have e2 : decide (l[i] :: l.drop (i + 1) = m[i] :: m.drop (i + 1)) = false := decide_eq_false fun h => he (List.cons.inj h).1
      rw [e2]
      simp (disch := first | with_reducible rfl | assumption | omega | rfl | (simp only [go_sem]; first | done | omega)) only [go_sem, ↓reduceIte, reduceCtorEq, Nat.reduceEqDiff, Nat.reduceAdd, Nat.reduceSub, Nat.reduceMul, Nat.reduceDiv, Nat.reduceMod, Nat.reduceLeDiff, Nat.reduceLT, Nat.reduceBEq, Int.reduceEq, Int.reduceBEq, Int.reduceBNe, Int.reduceLT, Int.reduceLE, Int.reduceAdd, Int.reduceSub, Int.reduceNeg, Int.reduceToNat, Int.reducePow, Nat.reducePow, Int.reduceMul, Int.reduceDiv, ↓s_ref02_Same_b0, hl1, hlt, hix, hc, hix2, hc2, alarm_ne, e1]

theorem q_Same (l m : List Al) (v u : Value) (H : AHeap) (hv : Rd EAl H v l) (hu : Rd EAl H u m) (hl : l.length < 1152921504606846976) : CC F.ref02_Same [v, u] H = some (.bool (decide (l = m)), H) := by
  have hl1 := hv.lenS
  have hl2 := hu.lenS
  by_cases hlen : l.length = m.length
  · have hne : (l.length : Int) = (m.length : Int) := by omega
    have hloop := l_same l m v u H hv hu hlen hl (endK Try.prog [.tmp 4]) l.length 0 (by omega) (by omega)
    rw [List.drop_zero, List.drop_zero] at hloop
    apply pure_of _ (d_ref02_Same _ _ H) rfl
    rotate_left 2
    · simp (disch := first | with_reducible rfl | assumption | omega | rfl | (simp only [go_sem]; first | done | omega)) only [go_sem, ↓reduceIte, reduceCtorEq, Nat.reduceEqDiff, Nat.reduceAdd, Nat.reduceSub, Nat.reduceMul, Nat.reduceDiv, Nat.reduceMod, Nat.reduceLeDiff, Nat.reduceLT, Nat.reduceBEq, Int.reduceEq, Int.reduceBEq, Int.reduceBNe, Int.reduceLT, Int.reduceLE, Int.reduceAdd, Int.reduceSub, Int.reduceNeg, Int.reduceToNat, Int.reducePow, Nat.reducePow, Int.reduceMul, Int.reduceDiv, ↓s_ref02_Same, hl1, hl2, hne]
      exact hloop
    · (repeat (first | exact Fr.refl _ | refine Fr.push ?_ _ | refine Fr.set ?_ _ _ (by intro h; first | omega | (simp only [go_sem] at h; omega))))
  · have hne : ¬ (l.length : Int) = (m.length : Int) := by omega
    have e : decide (l = m) = false := decide_eq_false fun h => hlen (by rw [h])
    rw [e]
    apply pure_of _ (d_ref02_Same _ _ H) rfl
    rotate_left 2
    · simp (disch := first | with_reducible rfl | assumption | omega | rfl | (simp only [go_sem]; first | done | omega)) only [go_sem, ↓reduceIte, reduceCtorEq, Nat.reduceEqDiff, Nat.reduceAdd, Nat.reduceSub, Nat.reduceMul, Nat.reduceDiv, Nat.reduceMod, Nat.reduceLeDiff, Nat.reduceLT, Nat.reduceBEq, Int.reduceEq, Int.reduceBEq, Int.reduceBNe, Int.reduceLT, Int.reduceLE, Int.reduceAdd, Int.reduceSub, Int.reduceNeg, Int.reduceToNat, Int.reducePow, Nat.reducePow, Int.reduceMul, Int.reduceDiv, ↓s_ref02_Same, hl1, hl2, hne]
      rfl
    · (repeat (first | exact Fr.refl _ | refine Fr.push ?_ _ | refine Fr.set ?_ _ _ (by intro h; first | omega | (simp only [go_sem] at h; omega))))

end Go.Proofs.Ytldgonjihhndgaa

/-
  Chapter 02: orders of alarms, in plain lists.
  Conditions: none. By an AI agent.
-/
set_option maxRecDepth 10000
set_option linter.unusedSimpArgs false
set_option linter.unusedVariables false
namespace Go.Proofs.Ytldgonjihhndgaa
open Go Eng

def ltA (a b : Al) : Prop := a.tm < b.tm ∨ (a.tm = b.tm ∧ a.id < b.id)

theorem cmp_lt {a b : Al} : cmpA a b < 0 ↔ ltA a b := by
  unfold cmpA orI cmpI ltA
  constructor
  · intro h
    split at h <;> (try split at h) <;> (try split at h) <;> (try split at h) <;> omega
  · intro h
    split <;> (try split) <;> (try split) <;> (try split) <;> omega

/-- In order, and all IDs not negative. -/
def Srt (l : List Al) : Prop := l.Pairwise ltA

instance (a b : Al) : Decidable (ltA a b) := by unfold ltA; exact inferInstance

/-- Where an alarm would be. -/
def posA (l : List Al) (a : Al) : Nat := (l.takeWhile fun x => decide (ltA x a)).length

theorem ltA_trans {a b c : Al} (h : ltA a b) (k : ltA b c) : ltA a c := by unfold ltA at *; omega
theorem ltA_irrefl (a : Al) : ¬ ltA a a := by unfold ltA; omega
theorem ltA_tri (a b : Al) : ltA a b ∨ a = b ∨ ltA b a := by
  rw [al_ext]
  unfold ltA
  omega

theorem posA_pos {l : List Al} (hs : Srt l) (a : Al) : Pos l a (posA l a) := by
  unfold Pos posA
  induction l with
  | nil => simp
  | cons x l ih =>
    have hs' := List.pairwise_cons.1 hs
    by_cases hx : ltA x a
    · have hx' : decide (ltA x a) = true := decide_eq_true hx
      obtain ⟨i1, i2, i3⟩ := ih hs'.2
      rw [List.takeWhile_cons, hx']
      simp only [if_true, List.length_cons]
      refine ⟨by omega, ?_, ?_⟩
      · intro i h hi
        cases i with
        | zero => simpa using cmp_lt.2 hx
        | succ i => simpa using i2 i (by simpa using h) (by omega)
      · intro i h hi
        cases i with
        | zero => omega
        | succ i => simpa using i3 i (by simpa using h) (by omega)
    · have hx' : decide (ltA x a) = false := decide_eq_false hx
      rw [List.takeWhile_cons, hx']
      simp only [Bool.false_eq_true, if_false, List.length_nil]
      refine ⟨by omega, fun i _ h => by omega, ?_⟩
      intro i h _ hc
      rw [cmp_lt] at hc
      cases i with
      | zero => exact hx (by simpa using hc)
      | succ i =>
        have hm : l[i]'(by simpa using h) ∈ l := List.getElem_mem _
        exact hx (ltA_trans (hs'.1 _ hm) (by simpa using hc))

/-- The list with one more alarm. -/
def insA (l : List Al) (a : Al) : List Al := l.take (posA l a) ++ a :: l.drop (posA l a)

theorem insA_cons {x a : Al} {l : List Al} : insA (x :: l) a = if ltA x a then x :: insA l a else a :: x :: l := by
  unfold insA posA
  by_cases h : ltA x a
  · rw [List.takeWhile_cons, decide_eq_true h, if_pos h]; simp
  · rw [List.takeWhile_cons, decide_eq_false h, if_neg h]; simp

theorem mem_insA {l : List Al} {a b : Al} : b ∈ insA l a ↔ b = a ∨ b ∈ l := by
  induction l with
  | nil => simp [insA, posA]
  | cons x l ih =>
    rw [insA_cons]
    split
    · simp [ih]; constructor
      · rintro (h | h | h) <;> simp [h]
      · rintro (h | h | h) <;> simp [h]
    · simp

theorem len_insA (l : List Al) (a : Al) : (insA l a).length = l.length + 1 := by
  induction l with
  | nil => rfl
  | cons x l ih =>
    rw [insA_cons]
    split
    · simp [ih]
    · simp

theorem srt_insA {l : List Al} {a : Al} (hs : Srt l) (ha : ∀ x, x ∈ l → x ≠ a) : Srt (insA l a) := by
  induction l with
  | nil => simp [Srt, insA, posA]
  | cons x l ih =>
    have hs' := List.pairwise_cons.1 hs
    rw [insA_cons]
    split
    · rename_i h
      refine List.pairwise_cons.2 ⟨fun b hb => ?_, ih hs'.2 fun y hy => ha y (List.mem_cons_of_mem _ hy)⟩
      rcases mem_insA.1 hb with rfl | hb
      · exact h
      · exact hs'.1 b hb
    · rename_i h
      have hax : ltA a x := by
        rcases ltA_tri x a with h' | h' | h'
        · exact absurd h' h
        · exact absurd h' (ha x (by simp))
        · exact h'
      refine List.pairwise_cons.2 ⟨fun b hb => ?_, hs⟩
      rcases List.mem_cons.1 hb with rfl | hb
      · exact hax
      · exact ltA_trans hax (hs'.1 b hb)

/-! IDs -/
theorem idxFrom_neg {id : Int} : ∀ {l : List Al} {i : Nat}, (∀ x, x ∈ l → x.id ≠ id) → idxFrom id l i = -1
  | [], _, _ => rfl
  | a :: l, i, h => by
    rw [idxFrom, if_neg (h a (by simp))]
    exact idxFrom_neg fun x hx => h x (List.mem_cons_of_mem _ hx)

theorem idxFrom_some {id : Int} : ∀ {l : List Al} {i : Nat}, (∃ x, x ∈ l ∧ x.id = id) → ∃ k, k < l.length ∧ idxFrom id l i = ((i + k : Nat) : Int) ∧ (∃ h : k < l.length, l[k].id = id)
  | [], _, h => by obtain ⟨x, hx, _⟩ := h; cases hx
  | a :: l, i, h => by
    by_cases ha : a.id = id
    · exact ⟨0, by simp, by rw [idxFrom, if_pos ha]; simp, by simp, by simpa using ha⟩
    · obtain ⟨k, h1, h2, h3, h4⟩ := idxFrom_some (l := l) (i := i + 1) (by
        obtain ⟨x, hx, hid⟩ := h
        rcases List.mem_cons.1 hx with rfl | hx
        · exact absurd hid ha
        · exact ⟨x, hx, hid⟩)
      refine ⟨k + 1, by simp; omega, ?_, by simp; omega, by simpa using h4⟩
      rw [idxFrom, if_neg ha, h2]
      congr 1
      omega

end Go.Proofs.Ytldgonjihhndgaa

/-
  The seat's functions as terms over the engine's combinators (a program of ours printed it).
  Conditions: none. By an AI agent.
-/
set_option linter.unusedVariables false
namespace Go.Proofs.Ytldgonjihhndgaa
open Go Eng

/-! ticketline.ticketlinelaw02.ClockFulls -/

noncomputable def s_law_ClockFulls (mg : GT) (mc : CT) (ms : ST) (P : Program) (C : CallF) (L0 : Value → Value → Value → Value → AHeap → K → Res) (a0 : Value) (a1 : Value) (H : AHeap) (K0 : K) : Res :=
bareK (xbin P .lss T.int (.tmp 12) (.const (.int .i64 4094)) a0 (.int .i64 4094)) H fun t13 h1 =>
mg t13 false (fun o1 => o1 a0 h1) h1 fun t15 h2 =>
mg t13 false (fun o2 => bareK (xbin P .gtr T.int (.tmp 15) (.const (.int .i64 4098)) t15 (.int .i64 4098)) h2 o2) h2 fun t16 h3 =>
pickK t13 (.bool true) t16 fun t17 =>
mg t17 false (fun o3 => o3 a1 h3) h3 fun t19 h4 =>
mg t17 false (fun o4 => bareK (xbin P .lss T.int (.tmp 19) (.const (.int .i64 0)) t19 (.int .i64 0)) h4 o4) h4 fun t20 h5 =>
pickK t17 (.bool true) t20 fun t21 =>
mg t21 false (fun o5 => o5 a1 h5) h5 fun t23 h6 =>
mg t21 false (fun o6 => bareK (xbin P .gtr T.int (.tmp 23) (.const (.int .i64 3)) t23 (.int .i64 3)) h6 o6) h6 fun t24 h7 =>
pickK t21 (.bool true) t24 fun t25 =>
mc t25 (fun k7 => enterK C F.law_known [] h7 fun t26 h8 =>
k7 .ret [(4, t26)] h8) (fun k7 =>
k7 .normal [(0, a0), (1, a1)] h7) (seqK (fun tT h9 =>
enterK C F.clock_New [(.int .i64 0)] h9 fun t28 h10 =>
bareK (xextract t28 0) h10 fun t29 h11 =>
bareK (xextract t28 1) h11 fun t30 h12 =>
bareK (xbin P .eql T.p_clock_Clock (.tmp 31) (.const (.pointer none)) t29 (.pointer none)) h12 fun t32 h13 =>
mg t32 false (fun o8 => o8 t30 h13) h13 fun t34 h14 =>
mg t32 false (fun o9 => bareK (xbin P .neq T.api_Errno (.tmp 34) (.const (.int .i64 0)) t34 (.int .i64 0)) h14 o9) h14 fun t35 h15 =>
pickK t32 (.bool true) t35 fun t36 =>
mc t36 (fun k10 => k10 .ret [(4, (.bool false))] h15) (fun k10 =>
k10 .normal [(0, (get tT 0)), (1, (get tT 1)), (5, t29)] h15) (seqK (fun tT_1 h16 =>
ms (fun k11 =>
L0 (get tT_1 0) (get tT_1 1) (get tT_1 5) (.int .i64 0) h16 (blkK [0, 1, 5] 0 k11)) (seqK (fun tT_2 h17 =>
nextK C h17 (xbuiltin P .min [T.int, T.int] [(get tT_2 0), (.int .i64 4096)] h17) fun t54 h18 =>
enterK C F.clock_Clock_Clear [(get tT_2 5), (.int .i64 0)] h18 fun t56 h19 =>
bareK (xbin P .neq T.api_Errno (.tmp 56) (.const (.int .i64 0)) t56 (.int .i64 0)) h19 fun t57 h20 =>
mg t57 false (fun o12 => o12 (get tT_2 5) h20) h20 fun t59 h21 =>
mg t57 false (fun o13 => o13 t54 h21) h21 fun t60 h22 =>
mg t57 false (fun o14 => enterK C F.clock_Clock_Set [t59, t60, (.int .i64 5)] h22 o14) h22 fun t61 h23 =>
mg t57 false (fun o15 => bareK (xbin P .neq T.api_Errno (.tmp 61) (.const (.int .i64 0)) t61 (.int .i64 0)) h23 o15) h23 fun t62 h24 =>
pickK t57 (.bool true) t62 fun t63 =>
mg t63 false (fun o16 => o16 (get tT_2 5) h24) h24 fun t65 h25 =>
mg t63 false (fun o17 => enterK C F.clock_Clock_Next [t65] h25 o17) h25 fun t66 h26 =>
mg t63 false (fun o18 => bareK (xbin P .neq T.int (.tmp 66) (.const (.int .i64 5)) t66 (.int .i64 5)) h26 o18) h26 fun t67 h27 =>
pickK t63 (.bool true) t67 fun t68 =>
mc t68 (fun k19 => k19 .ret [(4, (.bool false))] h27) (fun k19 =>
k19 .normal [(1, (get tT_2 1)), (5, (get tT_2 5)), (9, t54)] h27) (seqK (fun tT_3 h28 =>
enterK C F.clock_Clock_Tick [(get tT_3 5), (.int .i64 99999)] h28 fun t71 h29 =>
bareK (xextract t71 0) h29 fun t72 h30 =>
bareK (xextract t71 1) h30 fun t73 h31 =>
bareK (xbin P .gtr T.int (.tmp 74) (.const (.int .i64 0)) (get tT_3 1) (.int .i64 0)) h31 fun t75 h32 =>
mc t75 (fun k20 => k20 .normal [(5, (get tT_3 5)), (6, t73), (9, (get tT_3 9)), (10, t72), (11, (get tT_3 9))] h32) (fun k20 =>
k20 .normal [(5, (get tT_3 5)), (6, t73), (9, (get tT_3 9)), (10, t72), (11, (.int .i64 1))] h32) (seqK (fun tT_4 h33 =>
bareK (lenS (get tT_4 10)) h33 fun t78 h34 =>
bareK (xbin P .eql T.int (.tmp 78) (.tmp 79) t78 (get tT_4 11)) h34 fun t80 h35 =>
mg t80 true (fun o21 => o21 (get tT_4 6) h35) h35 fun t82 h36 =>
mg t80 true (fun o22 => bareK (xbin P .eql T.api_Errno (.tmp 82) (.const (.int .i64 0)) t82 (.int .i64 0)) h36 o22) h36 fun t83 h37 =>
pickK t80 t83 (.bool false) fun t84 =>
mg t84 true (fun o23 => o23 (get tT_4 10) h37) h37 fun t86 h38 =>
mg t84 true (fun o24 => bareK (ixS 2 t86 (.int .i64 0)) h38 o24) h38 fun t87 h39 =>
mg t84 true (fun o25 => bareK (ldN 2 h39 t87) h39 o25) h39 fun t88 h40 =>
mg t84 true (fun o26 => o26 (get tT_4 9) h40) h40 fun t89 h41 =>
mg t84 true (fun o27 => bareK (bldS #[(.int .i64 0), (.int .i64 0)] [(0, 1), (1, 1)] [(0, t89), (1, (.int .i64 5))]) h41 o27) h41 fun t90 h42 =>
mg t84 true (fun o28 => bareK (xbin P .eql T.api_Alarm (.tmp 88) (.tmp 90) t88 t90) h42 o28) h42 fun t91 h43 =>
pickK t84 t91 (.bool false) fun t92 =>
mg t92 true (fun o29 => o29 (get tT_4 5) h43) h43 fun t94 h44 =>
mg t92 true (fun o30 => enterK C F.clock_Clock_Alarms [t94] h44 o30) h44 fun t95 h45 =>
mg t92 true (fun o31 => bareK (lenS t95) h45 o31) h45 fun t96 h46 =>
mg t92 true (fun o32 => o32 (get tT_4 9) h46) h46 fun t97 h47 =>
mg t92 true (fun o33 => o33 (get tT_4 11) h47) h47 fun t98 h48 =>
mg t92 true (fun o34 => bareK (xbin P .sub T.int (.tmp 97) (.tmp 98) t97 t98) h48 o34) h48 fun t99 h49 =>
mg t92 true (fun o35 => bareK (xbin P .eql T.int (.tmp 96) (.tmp 99) t96 t99) h49 o35) h49 fun t100 h50 =>
pickK t92 t100 (.bool false) fun t101 =>
mg t101 true (fun o36 => enterK C F.law_known [] h50 o36) h50 fun t103 h51 =>
pickK t101 t103 (.bool false) fun t104 =>
K0 .ret [(4, t104)] h51) K0)) K0)) K0)) K0)) K0)

noncomputable def s_law_ClockFulls_b0 (mg : GT) (mc : CT) (ms : ST) (P : Program) (C : CallF) (L0 : Value → Value → Value → Value → AHeap → K → Res) (v0 : Value) (v1 : Value) (v5 : Value) (v7 : Value) (H : AHeap) (k : K) : Res :=
bareK (xbin P .lss T.int (.tmp 37) (.tmp 38) v7 v0) H fun t39 h17 =>
mc t39 (fun k12 => k12 .normal [(0, v0), (1, v1), (5, v5), (7, v7)] h17) (fun k12 =>
k12 (.exit 0) [(39, t39), (38, v0), (37, v7), (0, v0), (1, v1), (5, v5), (7, v7)] h17) (seqK (fun tT h18 =>
ms (fun k13 =>
bareK (xbin P .geq T.int (.tmp 42) (.const (.int .i64 4096)) (get tT 7) (.int .i64 4096)) h18 fun t43 h19 =>
mc t43 (fun k14 => k14 .normal [(0, (get tT 0)), (1, (get tT 1)), (5, (get tT 5)), (7, (get tT 7)), (8, (.int .i64 7))] h19) (fun k14 =>
k14 .normal [(0, (get tT 0)), (1, (get tT 1)), (5, (get tT 5)), (7, (get tT 7)), (8, (.int .i64 0))] h19) (seqK (fun tT_1 h20 =>
bareK (xbin P .mul T.int (.tmp 46) (.tmp 47) (get tT_1 1) (get tT_1 7)) h20 fun t48 h21 =>
bareK (xbin P .sub T.int (.const (.int .i64 100000)) (.tmp 48) (.int .i64 100000) t48) h21 fun t49 h22 =>
enterK C F.clock_Clock_Set [(get tT_1 5), (get tT_1 7), t49] h22 fun t50 h23 =>
bareK (xbin P .neq T.api_Errno (.tmp 50) (.tmp 51) t50 (get tT_1 8)) h23 fun t52 h24 =>
mc t52 (fun k15 => k15 .ret [(4, (.bool false))] h24) (fun k15 =>
k15 .normal [(0, (get tT_1 0)), (1, (get tT_1 1)), (5, (get tT_1 5)), (7, (get tT_1 7))] h24) (blkK [0, 1, 5, 7] 1 k13)) (blkK [0, 1, 5, 7] 1 k13))) (seqK (fun tT_2 h25 =>
bareK (xbin P .add T.int (.tmp 40) (.const (.int .i64 1)) (get tT_2 7) (.int .i64 1)) h25 fun t41 h26 =>
k .normal [(0, (get tT_2 0)), (1, (get tT_2 1)), (5, (get tT_2 5)), (7, t41)] h26) (afterK [0, 1, 5, 7] k))) (afterK [0, 1, 5, 7] k))

theorem s_law_ClockFulls_eq (M : CombL) (C : CallF) (LP : LoopH) (a0 : Value) (a1 : Value) (H : AHeap) : dBodyL M Try.prog hints C LP F.law_ClockFulls [a0, a1] H = s_law_ClockFulls M.b.g M.c M.s Try.prog C (fun v0 v1 v5 v7 H k => loopL M Try.prog hints C LP F.law_ClockFulls 0 [(0, v0), (1, v1), (5, v5), (7, v7)] H k) a0 a1 H (endK Try.prog [.tmp 4]) := by kernel_rfl

theorem s_law_ClockFulls_b0_eq (M : CombL) (C : CallF) (LP : LoopH) (v0 : Value) (v1 : Value) (v5 : Value) (v7 : Value) (H : AHeap) (k : K) : bodyL M Try.prog hints C LP F.law_ClockFulls 0 [(0, v0), (1, v1), (5, v5), (7, v7)] H (afterK [0, 1, 5, 7] k) = s_law_ClockFulls_b0 M.b.g M.c M.s Try.prog C (fun v0 v1 v5 v7 H k => loopL M Try.prog hints C LP F.law_ClockFulls 0 [(0, v0), (1, v1), (5, v5), (7, v7)] H k) v0 v1 v5 v7 H k := by kernel_rfl

end Go.Proofs.Ytldgonjihhndgaa

/-
  The equations of the seat's functions over calls in the limit (a program of ours printed it).
  Conditions: none. By an AI agent.
-/
set_option linter.unusedVariables false
namespace Go.Proofs.Ytldgonjihhndgaa
open Go Eng



noncomputable def l_law_ClockFulls_0 (v0 : Value) (v1 : Value) (v5 : Value) (v7 : Value) (H : AHeap) (k : K) : Res := loopL stdL Try.prog hints CC limLP F.law_ClockFulls 0 [(0, v0), (1, v1), (5, v5), (7, v7)] H k
theorem r_law_ClockFulls_0 (v0 : Value) (v1 : Value) (v5 : Value) (v7 : Value) (H : AHeap) (k : K) : l_law_ClockFulls_0 v0 v1 v5 v7 H k = s_law_ClockFulls_b0 guardK condL shareL Try.prog CC l_law_ClockFulls_0 v0 v1 v5 v7 H (seqK (fun T H => l_law_ClockFulls_0 (get T 0) (get T 1) (get T 5) (get T 7) H k) k) := ((loopL_next (by kernel_rfl) rfl H k).trans (s_law_ClockFulls_b0_eq stdL CC limLP v0 v1 v5 v7 H _)).trans (by kernel_rfl)
theorem d_law_ClockFulls (a0 : Value) (a1 : Value) (H : AHeap) {r : Value × AHeap} (h : s_law_ClockFulls guardK condL shareL Try.prog CC l_law_ClockFulls_0 a0 a1 H (endK Try.prog [.tmp 4]) = some r) : CC F.law_ClockFulls [a0, a1] H = some (tidy H r) := D_body (by kernel_rfl) ((s_law_ClockFulls_eq stdL CC limLP a0 a1 H).trans (Eq.trans (show s_law_ClockFulls stdL.b.g stdL.c stdL.s Try.prog CC (fun v0 v1 v5 v7 H k => loopL stdL Try.prog hints CC limLP F.law_ClockFulls 0 [(0, v0), (1, v1), (5, v5), (7, v7)] H k) a0 a1 H (endK Try.prog [.tmp 4]) = s_law_ClockFulls guardK condL shareL Try.prog CC l_law_ClockFulls_0 a0 a1 H (endK Try.prog [.tmp 4]) by kernel_rfl) h))

end Go.Proofs.Ytldgonjihhndgaa

/-
  Chapter 02: the law ClockFulls runs to true.
  Conditions: none. By an AI agent.
-/
set_option maxRecDepth 10000
set_option linter.unusedSimpArgs false
set_option linter.unusedVariables false
namespace Go.Proofs.Ytldgonjihhndgaa
open Go Eng

def item (less : Int) (j : Nat) : Al := ⟨j, 100000 - less * j⟩
/-- The alarms after i calls. -/
def fullA (less : Int) : Nat → List Al
  | 0 => []
  | i + 1 => insA (fullA less i) (item less i)

theorem len_fullA (less : Int) : ∀ i, (fullA less i).length = i
  | 0 => rfl
  | i + 1 => by rw [fullA, len_insA, len_fullA less i]
theorem mem_fullA {less : Int} {x : Al} : ∀ {i : Nat}, x ∈ fullA less i ↔ ∃ j, j < i ∧ x = item less j
  | 0 => by simp [fullA]
  | i + 1 => by
    rw [fullA, mem_insA, mem_fullA (i := i)]
    constructor
    · rintro (h | ⟨j, h1, h2⟩)
      · exact ⟨i, by omega, h⟩
      · exact ⟨j, by omega, h2⟩
    · rintro ⟨j, h1, h2⟩
      by_cases h : j = i
      · subst h; exact .inl h2
      · exact .inr ⟨j, by omega, h2⟩
theorem srt_fullA (less : Int) : ∀ i, Srt (fullA less i)
  | 0 => List.Pairwise.nil
  | i + 1 => srt_insA (srt_fullA less i) fun x hx h => by
    obtain ⟨j, h1, rfl⟩ := mem_fullA.1 hx
    have := congrArg Al.id h
    simp [item] at this
    omega

theorem Ok.fr {S : Nat → Prop} {H H' : AHeap} (h : Ok H) (f : Fr S H H') : Ok H' := f.ok h

theorem mul_small {less : Int} (h : 0 ≤ less ∧ less ≤ 3) {i : Nat} (hi : i ≤ 4098) : 0 ≤ less * i ∧ less * i ≤ 12294 := by
  have : less = 0 ∨ less = 1 ∨ less = 2 ∨ less = 3 := by omega
  rcases this with rfl | rfl | rfl | rfl <;> omega

theorem l_full (less : Int) (hless : 0 ≤ less ∧ less ≤ 3) (many : Nat) (hmany : many ≤ 4098) (b : Nat) (H0 : AHeap) (hb : H0.n ≤ b) : ∀ (d i : Nat) (H : AHeap), many - i = d → i ≤ many → Clk H b 0 (fullA less (min i 4096)) → Ok H → Still H0 H →
    ∃ H', (∀ K, l_law_ClockFulls_0 (.int .i64 many) (.int .i64 less) (.pointer (some ⟨b, 0, none⟩)) (.int .i64 i) H K = K (.exit 0) [(39, .bool false), (38, .int .i64 many), (37, .int .i64 many), (0, .int .i64 many), (1, .int .i64 less), (5, .pointer (some ⟨b, 0, none⟩)), (7, .int .i64 many)] H') ∧
      Clk H' b 0 (fullA less (min many 4096)) ∧ Ok H' ∧ Still H0 H'
  | 0, i, H, hd, hi, hc, hok, hs => by
    have h : i = many := by omega
    subst h
    have hlt : ¬ (i : Int) < (i : Int) := by omega
    refine ⟨H, fun K => ?_, hc, hok, hs⟩
    rw [r_law_ClockFulls_0]
    simp (disch := first | with_reducible rfl | assumption | omega | rfl | (simp only [go_sem]; first | done | omega)) only [go_sem, ↓reduceIte, reduceCtorEq, Nat.reduceEqDiff, Nat.reduceAdd, Nat.reduceSub, Nat.reduceMul, Nat.reduceDiv, Nat.reduceMod, Nat.reduceLeDiff, Nat.reduceLT, Nat.reduceBEq, Int.reduceEq, Int.reduceBEq, Int.reduceBNe, Int.reduceLT, Int.reduceLE, Int.reduceAdd, Int.reduceSub, Int.reduceNeg, Int.reduceToNat, Int.reducePow, Nat.reducePow, Int.reduceMul, Int.reduceDiv, ↓s_law_ClockFulls_b0, hlt]
  | d + 1, i, H, hd, hi, hc, hok, hs => by
    have h : i < many := by omega
    have hlt : (i : Int) < (many : Int) := by omega
    obtain ⟨hm1, hm2⟩ := mul_small hless (i := i) (by omega)
    have hmr : -9223372036854775808 ≤ less * (i : Int) ∧ less * (i : Int) < 9223372036854775808 := by omega
    have htick : isTick (100000 - less * (i : Int)) = true := isTick_iff.2 (by omega)
    have hsr : -9223372036854775808 ≤ 100000 - less * (i : Int) ∧ 100000 - less * (i : Int) < 9223372036854775808 := by omega
    by_cases h4 : 4096 ≤ i
    · have h4' : (4096 : Int) ≤ (i : Int) := by omega
      have hmin : min i 4096 = 4096 := by omega
      have hneg : ¬ 0 ≤ idxFrom i (fullA less (min i 4096)) 0 := by
        rw [idxFrom_neg fun x hx h => ?_]
        · omega
        · obtain ⟨j, hj, rfl⟩ := mem_fullA.1 hx
          simp [item] at h
          omega
      have hset := q_Set_full b 0 i (100000 - less * (i : Int)) _ H hc (by rw [len_fullA]; omega) (by omega) htick hneg (by rw [len_fullA]; omega)
      obtain ⟨H', hloop, r1, r2, r3⟩ := l_full less hless many hmany b H0 hb d (i + 1) H (by omega) h (by rw [show min (i + 1) 4096 = min i 4096 by omega]; exact hc) hok hs
      refine ⟨H', fun K => ?_, r1, r2, r3⟩
      rw [← hloop K, r_law_ClockFulls_0]
      simp (disch := first | with_reducible rfl | assumption | omega | rfl | (simp only [go_sem]; first | done | omega)) only [go_sem, ↓reduceIte, reduceCtorEq, Nat.reduceEqDiff, Nat.reduceAdd, Nat.reduceSub, Nat.reduceMul, Nat.reduceDiv, Nat.reduceMod, Nat.reduceLeDiff, Nat.reduceLT, Nat.reduceBEq, Int.reduceEq, Int.reduceBEq, Int.reduceBNe, Int.reduceLT, Int.reduceLE, Int.reduceAdd, Int.reduceSub, Int.reduceNeg, Int.reduceToNat, Int.reducePow, Nat.reducePow, Int.reduceMul, Int.reduceDiv, ↓s_law_ClockFulls_b0, hlt, h4', enterK_eq hset]
    · have h4' : ¬ (4096 : Int) ≤ (i : Int) := by omega
      have hmin : min i 4096 = i := by omega
      rw [hmin] at hc
      have hneg : ¬ 0 ≤ idxFrom i (fullA less i) 0 := by
        rw [idxFrom_neg fun x hx h => ?_]
        · omega
        · obtain ⟨j, hj, rfl⟩ := mem_fullA.1 hx
          simp [item] at h
          omega
      obtain ⟨H1, hset, hc1, hf1⟩ := q_Set b 0 i (100000 - less * (i : Int)) _ H hok hc (by omega) htick hneg (by rw [len_fullA]; omega) _ (posA_pos (srt_fullA less i) (item less i))
      obtain ⟨H', hloop, r1, r2, r3⟩ := l_full less hless many hmany b H0 hb d (i + 1) H1 (by omega) h (by rw [show min (i + 1) 4096 = i + 1 by omega]; exact hc1) (hok.fr hf1) (hs.then hf1 fun c hc h => by omega)
      refine ⟨H', fun K => ?_, r1, r2, r3⟩
      rw [← hloop K, r_law_ClockFulls_0]
      simp (disch := first | with_reducible rfl | assumption | omega | rfl | (simp only [go_sem]; first | done | omega)) only [go_sem, ↓reduceIte, reduceCtorEq, Nat.reduceEqDiff, Nat.reduceAdd, Nat.reduceSub, Nat.reduceMul, Nat.reduceDiv, Nat.reduceMod, Nat.reduceLeDiff, Nat.reduceLT, Nat.reduceBEq, Int.reduceEq, Int.reduceBEq, Int.reduceBNe, Int.reduceLT, Int.reduceLE, Int.reduceAdd, Int.reduceSub, Int.reduceNeg, Int.reduceToNat, Int.reducePow, Nat.reducePow, Int.reduceMul, Int.reduceDiv, ↓s_law_ClockFulls_b0, hlt, h4', enterK_eq hset]

theorem posA_all {l : List Al} {a : Al} (h : ∀ x, x ∈ l → ltA x a) : posA l a = l.length := by
  unfold posA
  induction l with
  | nil => rfl
  | cons x l ih =>
    rw [List.takeWhile_cons, decide_eq_true (h x (by simp))]
    simp only [if_true, List.length_cons, ih fun y hy => h y (List.mem_cons_of_mem _ hy)]
theorem posA_none {l : List Al} {a : Al} (h : ∀ x, x ∈ l → ¬ ltA x a) : posA l a = 0 := by
  unfold posA
  cases l with
  | nil => rfl
  | cons x l => rw [List.takeWhile_cons, decide_eq_false (h x (by simp))]; rfl

theorem srt_nodup {l : List Al} (hs : Srt l) : l.Nodup := by
  refine List.Pairwise.imp ?_ hs
  intro a b h e
  subst e
  exact ltA_irrefl a h

theorem min_if {a b : Int} : min a b = if b < a then b else a := by rw [Int.min_def]; split <;> split <;> omega

section
variable {m n : Nat} {less : Int} {H H1 H2 H3 H4 H5 H6 : AHeap} {v' v6 : Value} {bb o : Nat} {L : List Al} {c1 c2 c3 c4 c5 c6 : Value} {c7 : AHeap}
set_option maxHeartbeats 1000000 in
theorem full_s1 (g1 : ¬ (m : Int) < 4094) (g2 : ¬ 4098 < (m : Int)) (g3 : ¬ less < 0) (g4 : ¬ 3 < less) (hl0 : 0 < less)
    (hnew : CC F.clock_New [.int .i64 0] H = some (.tuple #[.pointer (some ⟨H.n, 0, none⟩), .int .i64 0], H1))
    (hloop : ∀ K, l_law_ClockFulls_0 (.int .i64 m) (.int .i64 less) (.pointer (some ⟨H.n, 0, none⟩)) (.int .i64 0) H1 K = K (.exit 0) [(39, .bool false), (38, .int .i64 m), (37, .int .i64 m), (0, .int .i64 m), (1, .int .i64 less), (5, .pointer (some ⟨H.n, 0, none⟩)), (7, .int .i64 m)] H2)
    (hnm : (min (m : Int) 4096) = (n : Int))
    (hclear : CC F.clock_Clock_Clear [.pointer (some ⟨H.n, 0, none⟩), .int .i64 0] H2 = some (.int .i64 0, H3))
    (hset : CC F.clock_Clock_Set [.pointer (some ⟨H.n, 0, none⟩), .int .i64 n, .int .i64 5] H3 = some (.int .i64 0, H4))
    (hnext : CC F.clock_Clock_Next [.pointer (some ⟨H.n, 0, none⟩)] H4 = some (.int .i64 (nextOf (⟨(n : Int), 5⟩ :: L)), H4))
    (htick : CC F.clock_Clock_Tick [.pointer (some ⟨H.n, 0, none⟩), .int .i64 99999] H4 = some (.tuple #[v', .int .i64 0], H5))
    (hlen5 : lenS v' = some (.int .i64 (n : Int))) (hix : ixS 2 v' (.int .i64 0) = some (.pointer (some ⟨bb, o, none⟩))) (hcc : cutB (H5.f bb) o 2 = some [.int .i64 n, .int .i64 5])
    (hal : CC F.clock_Clock_Alarms [.pointer (some ⟨H.n, 0, none⟩)] H5 = some (v6, H6)) (hlen6 : lenS v6 = some (.int .i64 ((n : Int) - ((n : Int))))) (hn : (n : Int) ≤ 4096) :
    s_law_ClockFulls guardK condL shareL Try.prog CC l_law_ClockFulls_0 (.int .i64 m) (.int .i64 less) H (endK Try.prog [.tmp 4]) = some (.bool true, H6) := by
  have hnext : CC F.clock_Clock_Next [.pointer (some ⟨H.n, 0, none⟩)] H4 = some (.int .i64 5, H4) := hnext
  have hr : -9223372036854775808 ≤ (n : Int) - ((n : Int)) ∧ (n : Int) - ((n : Int)) < 9223372036854775808 := by omega
  simp (disch := first | with_reducible rfl | assumption | omega | rfl | (simp only [go_sem]; first | done | omega)) only [go_sem, ↓reduceIte, reduceCtorEq, Nat.reduceEqDiff, Nat.reduceAdd, Nat.reduceSub, Nat.reduceMul, Nat.reduceDiv, Nat.reduceMod, Nat.reduceLeDiff, Nat.reduceLT, Nat.reduceBEq, Int.reduceEq, Int.reduceBEq, Int.reduceBNe, Int.reduceLT, Int.reduceLE, Int.reduceAdd, Int.reduceSub, Int.reduceNeg, Int.reduceToNat, Int.reducePow, Nat.reducePow, Int.reduceMul, Int.reduceDiv, ↓s_law_ClockFulls, g1, g2, g3, g4, enterK_eq hnew, ptr_some_eq, hloop, hnm, enterK_eq hclear, enterK_eq hset, enterK_eq hnext, enterK_eq htick, hl0, hlen5, hix, hcc, alarm_eq, enterK_eq hal, hlen6, e_known]

set_option maxHeartbeats 1000000 in
theorem full_s2 (g1 : ¬ (m : Int) < 4094) (g2 : ¬ 4098 < (m : Int)) (g3 : ¬ less < 0) (g4 : ¬ 3 < less) (hl0 : ¬ 0 < less)
    (hnew : CC F.clock_New [.int .i64 0] H = some (.tuple #[.pointer (some ⟨H.n, 0, none⟩), .int .i64 0], H1))
    (hloop : ∀ K, l_law_ClockFulls_0 (.int .i64 m) (.int .i64 less) (.pointer (some ⟨H.n, 0, none⟩)) (.int .i64 0) H1 K = K (.exit 0) [(39, .bool false), (38, .int .i64 m), (37, .int .i64 m), (0, .int .i64 m), (1, .int .i64 less), (5, .pointer (some ⟨H.n, 0, none⟩)), (7, .int .i64 m)] H2)
    (hnm : (min (m : Int) 4096) = (n : Int))
    (hclear : CC F.clock_Clock_Clear [.pointer (some ⟨H.n, 0, none⟩), .int .i64 0] H2 = some (.int .i64 0, H3))
    (hset : CC F.clock_Clock_Set [.pointer (some ⟨H.n, 0, none⟩), .int .i64 n, .int .i64 5] H3 = some (.int .i64 0, H4))
    (hnext : CC F.clock_Clock_Next [.pointer (some ⟨H.n, 0, none⟩)] H4 = some (.int .i64 (nextOf (⟨(n : Int), 5⟩ :: L)), H4))
    (htick : CC F.clock_Clock_Tick [.pointer (some ⟨H.n, 0, none⟩), .int .i64 99999] H4 = some (.tuple #[v', .int .i64 0], H5))
    (hlen5 : lenS v' = some (.int .i64 ((1 : Nat) : Int))) (hix : ixS 2 v' (.int .i64 0) = some (.pointer (some ⟨bb, o, none⟩))) (hcc : cutB (H5.f bb) o 2 = some [.int .i64 n, .int .i64 5])
    (hal : CC F.clock_Clock_Alarms [.pointer (some ⟨H.n, 0, none⟩)] H5 = some (v6, H6)) (hlen6 : lenS v6 = some (.int .i64 ((n : Int) - (((1 : Nat) : Int))))) (hn : (n : Int) ≤ 4096) :
    s_law_ClockFulls guardK condL shareL Try.prog CC l_law_ClockFulls_0 (.int .i64 m) (.int .i64 less) H (endK Try.prog [.tmp 4]) = some (.bool true, H6) := by
  have hnext : CC F.clock_Clock_Next [.pointer (some ⟨H.n, 0, none⟩)] H4 = some (.int .i64 5, H4) := hnext
  have hr : -9223372036854775808 ≤ (n : Int) - (((1 : Nat) : Int)) ∧ (n : Int) - (((1 : Nat) : Int)) < 9223372036854775808 := by omega
  simp (disch := first | with_reducible rfl | assumption | omega | rfl | (simp only [go_sem]; first | done | omega)) only [go_sem, ↓reduceIte, reduceCtorEq, Nat.reduceEqDiff, Nat.reduceAdd, Nat.reduceSub, Nat.reduceMul, Nat.reduceDiv, Nat.reduceMod, Nat.reduceLeDiff, Nat.reduceLT, Nat.reduceBEq, Int.reduceEq, Int.reduceBEq, Int.reduceBNe, Int.reduceLT, Int.reduceLE, Int.reduceAdd, Int.reduceSub, Int.reduceNeg, Int.reduceToNat, Int.reducePow, Nat.reducePow, Int.reduceMul, Int.reduceDiv, ↓s_law_ClockFulls, g1, g2, g3, g4, enterK_eq hnew, ptr_some_eq, hloop, hnm, enterK_eq hclear, enterK_eq hset, enterK_eq hnext, enterK_eq htick, hl0, hlen5, hix, hcc, alarm_eq, enterK_eq hal, hlen6, e_known]
end

set_option maxHeartbeats 1000000 in
theorem q_ClockFulls (many less : Int) (H : AHeap) (hok : Ok H) : ∃ H', CC F.law_ClockFulls [.int .i64 many, .int .i64 less] H = some (.bool true, H') := by
  by_cases hin : 4094 ≤ many ∧ many ≤ 4098 ∧ 0 ≤ less ∧ less ≤ 3
  · obtain ⟨h1, h2, h3, h4⟩ := hin
    have g1 : ¬ many < 4094 := by omega
    have g2 : ¬ 4098 < many := by omega
    have g3 : ¬ less < 0 := by omega
    have g4 : ¬ 3 < less := by omega
    obtain ⟨m, rfl⟩ : ∃ m : Nat, many = (m : Int) := ⟨many.toNat, by omega⟩
    obtain ⟨H1, hnew, hc0, hs0⟩ := q_New 0 H rfl
    obtain ⟨H2, hloop, hc2, hok2, hs2⟩ := l_full less ⟨h3, h4⟩ m (by omega) H.n H (Nat.le_refl _) m 0 H1 (by omega) (by omega) hc0 (hok.fr hs0) hs0
    have hloop : ∀ K, l_law_ClockFulls_0 (.int .i64 m) (.int .i64 less) (.pointer (some ⟨H.n, 0, none⟩)) (.int .i64 0) H1 K = _ := hloop
    -- how many there are
    generalize hn : min m 4096 = n at hc2
    have hnm : (min (m : Int) 4096) = (n : Int) := by omega
    have hn2 : 4094 ≤ n ∧ n ≤ 4096 := by omega
    -- one is cleared
    obtain ⟨k, hk1, hk2, hk3, hk4⟩ := idxFrom_some (id := 0) (l := fullA less n) (i := 0) ⟨item less 0, mem_fullA.2 ⟨0, by omega, rfl⟩, rfl⟩
    obtain ⟨H3, hclear, hc3, hf3⟩ := q_Clear H.n 0 0 _ H2 hok2 hc2 (by rw [len_fullA]; omega) k hk1 (by rw [hk2]; simp)
    have hok3 := hok2.fr hf3
    generalize hL : (fullA less n).take k ++ (fullA less n).drop (k + 1) = L at hc3
    have hLlen : L.length = n - 1 := by rw [← hL]; simp [len_fullA]; rw [len_fullA] at hk1; omega
    have hperm : ∀ x, x ∈ L → x ∈ fullA less n ∧ x.id ≠ 0 := by
      intro x hx
      rw [← hL] at hx
      have hnd := srt_nodup (srt_fullA less n)
      have hsplit : fullA less n = (fullA less n).take k ++ (fullA less n)[k] :: (fullA less n).drop (k + 1) := by rw [← List.drop_eq_getElem_cons hk1, List.take_append_drop]
      have hxin : x ∈ fullA less n := by
        rcases List.mem_append.1 hx with h | h
        · exact List.mem_of_mem_take h
        · exact List.mem_of_mem_drop h
      refine ⟨hxin, fun h0 => ?_⟩
      obtain ⟨j, _, rfl⟩ := mem_fullA.1 hxin
      have hj : j = 0 := by simp [item] at h0; omega
      obtain ⟨j', _, hj'⟩ := mem_fullA.1 (List.getElem_mem hk1)
      rw [hj'] at hk4
      have hj0 : j' = 0 := by simp [item] at hk4; omega
      rw [hsplit] at hnd
      rw [hj', hj0] at hnd
      rw [hj] at hx
      rw [List.nodup_append] at hnd
      obtain ⟨n1, n2, n3⟩ := hnd
      rcases List.mem_append.1 hx with h | h
      · exact n3 _ h _ (by simp) rfl
      · exact (List.nodup_cons.1 n2).1 h
    have hLs : Srt L := by
      rw [← hL]
      have := (List.take_sublist k (fullA less n)).append (List.Sublist.refl ((fullA less n).drop (k + 1)))
      refine List.Pairwise.sublist ?_ (srt_fullA less n)
      have hsplit : fullA less n = (fullA less n).take k ++ (fullA less n)[k] :: (fullA less n).drop (k + 1) := by rw [← List.drop_eq_getElem_cons hk1, List.take_append_drop]
      conv => rhs; rw [hsplit]
      exact List.Sublist.append (List.Sublist.refl _) (List.sublist_cons_self _ _)
    have hLmem : ∀ x, x ∈ L → ∃ j, 1 ≤ j ∧ j < n ∧ x = item less j := by
      intro x hx
      obtain ⟨h, h0⟩ := hperm x hx
      obtain ⟨j, hj, rfl⟩ := mem_fullA.1 h
      refine ⟨j, ?_, hj, rfl⟩
      simp [item] at h0
      omega
    -- one more
    have hneg : ¬ 0 ≤ idxFrom (n : Int) L 0 := by
      rw [idxFrom_neg fun x hx h => ?_]
      · omega
      · obtain ⟨j, _, hj, rfl⟩ := hLmem x hx
        simp [item] at h
        omega
    have hp0 : posA L ⟨(n : Int), 5⟩ = 0 := posA_none fun x hx h => by
      obtain ⟨j, _, hj, rfl⟩ := hLmem x hx
      obtain ⟨hm1, hm2⟩ := mul_small ⟨h3, h4⟩ (i := j) (by omega)
      unfold ltA item at h
      simp at h
      omega
    obtain ⟨H4, hset, hc4, hf4⟩ := q_Set H.n 0 (n : Int) 5 L H3 hok3 hc3 (by omega) rfl hneg (by rw [hLlen]; omega) 0 (by have := posA_pos hLs ⟨(n : Int), 5⟩; rwa [hp0] at this)
    have hok4 := hok3.fr hf4
    simp only [List.take_zero, List.nil_append, List.drop_zero] at hc4
    have hnext := q_Next H.n 0 _ H4 hc4
    have hs4 : Srt (⟨(n : Int), 5⟩ :: L) := by
      refine List.pairwise_cons.2 ⟨fun x hx => ?_, hLs⟩
      obtain ⟨j, _, hj, rfl⟩ := hLmem x hx
      obtain ⟨hm1, hm2⟩ := mul_small ⟨h3, h4⟩ (i := j) (by omega)
      unfold ltA item
      simp
      omega
    -- the ticks
    have hdue : due 0 99999 = 99999 := by decide
    have hpos := posA_pos hs4 ⟨-1, min (due 0 99999 + 1) 4611686018427387904⟩
    generalize hpp : posA (⟨(n : Int), 5⟩ :: L) ⟨-1, min (due 0 99999 + 1) 4611686018427387904⟩ = p at hpos
    have hp : p = if 0 < less then n else 1 := by
      rw [← hpp]
      have hmin : min (due 0 99999 + 1) 4611686018427387904 = 100000 := by decide
      rw [hmin]
      by_cases hl0 : 0 < less
      · rw [if_pos hl0, posA_all]
        · simp [hLlen]; omega
        · intro x hx
          rcases List.mem_cons.1 hx with rfl | hx
          · unfold ltA; simp
          · obtain ⟨j, hj1, hj, rfl⟩ := hLmem x hx
            have : less * (j : Int) ≥ 1 := by
              have : less = 1 ∨ less = 2 ∨ less = 3 := by omega
              rcases this with rfl | rfl | rfl <;> omega
            unfold ltA item
            simp
            omega
      · rw [if_neg hl0]
        have hl1 : less = 0 := by omega
        have hnone : posA L ⟨-1, 100000⟩ = 0 := posA_none fun x hx h => by
          obtain ⟨j, hj1, hj, rfl⟩ := hLmem x hx
          rw [hl1] at h
          unfold ltA item at h
          simp at h
          omega
        unfold posA at hnone ⊢
        rw [List.takeWhile_cons, decide_eq_true (by unfold ltA; simp)]
        simp only [if_true, List.length_cons, hnone]
    obtain ⟨v', H5, htick, ho5, hc5, hf5, hnw⟩ := q_Tick H.n 0 99999 _ H4 hok4 hc4 (by simp [hLlen]; omega) rfl (by omega) p hpos
    have hp1 : 1 ≤ p := by rw [hp]; split <;> omega
    have hpn : p ≤ n := by rw [hp]; split <;> omega
    have htk : ((⟨(n : Int), 5⟩ : Al) :: L).take p = ⟨(n : Int), 5⟩ :: L.take (p - 1) := by
      obtain ⟨q, rfl⟩ : ∃ q, p = q + 1 := ⟨p - 1, by omega⟩
      simp
    have htl : (((⟨(n : Int), 5⟩ : Al) :: L).take p).length = p := by simp [hLlen]; omega
    have hlen5 := ho5.rd.lenS
    rw [htl] at hlen5
    obtain ⟨bb, o, hix, hb, hcc, _⟩ := ho5.rd.ix (q := .i64) (i := 0) (by rw [htl]; omega)
    have hix : ixS 2 v' (.int .i64 0) = some (.pointer (some ⟨bb, o, none⟩)) := hix
    have hcc : cutB (H5.f bb) o 2 = some [.int .i64 n, .int .i64 5] := by
      have e : (((⟨(n : Int), 5⟩ : Al) :: L).take p)[0]'(by rw [htl]; omega) = ⟨(n : Int), 5⟩ := by simp only [htk]; rfl
      rw [e] at hcc
      exact hcc
    obtain ⟨v6, H6, hal, ho6, hs6, _⟩ := q_Alarms H.n (due 0 99999) _ H5 hc5 (by simp [hLlen]; omega)
    have hlen6 := ho6.rd.lenS
    have hdl : (((⟨(n : Int), 5⟩ : Al) :: L).drop p).length = n - p := by simp [hLlen]; omega
    rw [hdl] at hlen6
    have hnp : ((n - p : Nat) : Int) = (n : Int) - (p : Int) := by omega
    rw [hnp] at hlen6
    have hall : ∃ r, s_law_ClockFulls guardK condL shareL Try.prog CC l_law_ClockFulls_0 (.int .i64 m) (.int .i64 less) H (endK Try.prog [.tmp 4]) = some (.bool true, r) := by
      refine ⟨H6, ?_⟩
      by_cases hl0 : 0 < less
      · rw [if_pos hl0] at hp
        subst hp
        exact full_s1 g1 g2 g3 g4 hl0 hnew hloop hnm hclear hset hnext htick hlen5 hix hcc hal hlen6 (by omega)
      · rw [if_neg hl0] at hp
        subst hp
        exact full_s2 g1 g2 g3 g4 hl0 hnew hloop hnm hclear hset hnext htick hlen5 hix hcc hal hlen6 (by omega)
    obtain ⟨r, hr⟩ := hall
    obtain ⟨H'', ht⟩ : ∃ H'', tidy H (.bool true, r) = (.bool true, H'') := by unfold tidy; split <;> exact ⟨_, rfl⟩
    exact ⟨H'', (d_law_ClockFulls _ _ H hr).trans (congrArg some ht)⟩
  · have hall : ∃ r, s_law_ClockFulls guardK condL shareL Try.prog CC l_law_ClockFulls_0 (.int .i64 many) (.int .i64 less) H (endK Try.prog [.tmp 4]) = some (.bool true, r) := by
      refine ⟨H, ?_⟩
      by_cases g1 : many < 4094
      · simp (disch := first | with_reducible rfl | assumption | omega | rfl | (simp only [go_sem]; first | done | omega)) only [go_sem, ↓reduceIte, reduceCtorEq, Nat.reduceEqDiff, Nat.reduceAdd, Nat.reduceSub, Nat.reduceMul, Nat.reduceDiv, Nat.reduceMod, Nat.reduceLeDiff, Nat.reduceLT, Nat.reduceBEq, Int.reduceEq, Int.reduceBEq, Int.reduceBNe, Int.reduceLT, Int.reduceLE, Int.reduceAdd, Int.reduceSub, Int.reduceNeg, Int.reduceToNat, Int.reducePow, Nat.reducePow, Int.reduceMul, Int.reduceDiv, ↓s_law_ClockFulls, g1, e_known]
      · by_cases g2 : 4098 < many
        · simp (disch := first | with_reducible rfl | assumption | omega | rfl | (simp only [go_sem]; first | done | omega)) only [go_sem, ↓reduceIte, reduceCtorEq, Nat.reduceEqDiff, Nat.reduceAdd, Nat.reduceSub, Nat.reduceMul, Nat.reduceDiv, Nat.reduceMod, Nat.reduceLeDiff, Nat.reduceLT, Nat.reduceBEq, Int.reduceEq, Int.reduceBEq, Int.reduceBNe, Int.reduceLT, Int.reduceLE, Int.reduceAdd, Int.reduceSub, Int.reduceNeg, Int.reduceToNat, Int.reducePow, Nat.reducePow, Int.reduceMul, Int.reduceDiv, ↓s_law_ClockFulls, g1, g2, e_known]
        · by_cases g3 : less < 0
          · simp (disch := first | with_reducible rfl | assumption | omega | rfl | (simp only [go_sem]; first | done | omega)) only [go_sem, ↓reduceIte, reduceCtorEq, Nat.reduceEqDiff, Nat.reduceAdd, Nat.reduceSub, Nat.reduceMul, Nat.reduceDiv, Nat.reduceMod, Nat.reduceLeDiff, Nat.reduceLT, Nat.reduceBEq, Int.reduceEq, Int.reduceBEq, Int.reduceBNe, Int.reduceLT, Int.reduceLE, Int.reduceAdd, Int.reduceSub, Int.reduceNeg, Int.reduceToNat, Int.reducePow, Nat.reducePow, Int.reduceMul, Int.reduceDiv, ↓s_law_ClockFulls, g1, g2, g3, e_known]
          · have g4 : 3 < less := by omega
            simp (disch := first | with_reducible rfl | assumption | omega | rfl | (simp only [go_sem]; first | done | omega)) only [go_sem, ↓reduceIte, reduceCtorEq, Nat.reduceEqDiff, Nat.reduceAdd, Nat.reduceSub, Nat.reduceMul, Nat.reduceDiv, Nat.reduceMod, Nat.reduceLeDiff, Nat.reduceLT, Nat.reduceBEq, Int.reduceEq, Int.reduceBEq, Int.reduceBNe, Int.reduceLT, Int.reduceLE, Int.reduceAdd, Int.reduceSub, Int.reduceNeg, Int.reduceToNat, Int.reducePow, Nat.reducePow, Int.reduceMul, Int.reduceDiv, ↓s_law_ClockFulls, g1, g2, g3, g4, e_known]
    obtain ⟨r, hr⟩ := hall
    obtain ⟨H'', ht⟩ : ∃ H'', tidy H (.bool true, r) = (.bool true, H'') := by unfold tidy; split <;> exact ⟨_, rfl⟩
    exact ⟨H'', (d_law_ClockFulls _ _ H hr).trans (congrArg some ht)⟩

theorem H0_ok : Ok H0 := fun _ => Nat.zero_lt_one

theorem run_ClockFulls (a b : Int) (_ : (Lit.int .i64 a).wf = true) (_ : (Lit.int .i64 b).wf = true) : ∃ k H', dCall Try.prog prims1 hints k 4 [.int .i64 a, .int .i64 b] H0 = some (.bool true, H') := by
  obtain ⟨H', h⟩ := q_ClockFulls a b H0 H0_ok
  obtain ⟨k, hk⟩ := D_run h
  exact ⟨k, H', hk⟩

end Go.Proofs.Ytldgonjihhndgaa

/-
  A call that is reckoned with some fuel is one without fuel.
  Conditions: none. By an AI agent.
-/
set_option linter.all false
namespace Go.Proofs.Ytldgonjihhndgaa.Eng
open Go
theorem dLoop_body {body body' : Env → AHeap → DRes} (hb : ∀ T H r, body T H = some r → body' T H = some r) {keep : List Nat} : ∀ {m : Nat} {T : Env} {H : AHeap} {r : DExit × Env × AHeap}, dLoop body keep m T H = some r → dLoop body' keep m T H = some r
  | 0, _, _, _, h => by simp [dLoop] at h
  | m + 1, T, H, r, h => by
    rw [dLoop] at h ⊢
    cases hx : body (clr keep T) H with
    | none => rw [hx] at h; cases h
    | some x =>
      rw [hx] at h
      rw [hb _ _ _ hx]
      obtain ⟨e, T', H'⟩ := x
      cases e with
      | normal => exact dLoop_body hb h
      | exit i => exact h
      | ret => exact h

theorem code_fin {P : Program} {N m : Nat} {C : CallF} : ∀ (x : DCode) {T : Env} {H : AHeap} {r : DExit × Env × AHeap}, dCode P N C m x T H = some r → dCodeI P N C x T H = some r
  | .skip, _, _, _, h => h
  | .region id ops draw, T, H, r, h => h
  | .seq a b, T, H, r, h => by
    rw [dCode] at h
    obtain ⟨y, h1, h2⟩ := Option.bind_eq_some_iff.1 h
    rw [dCodeI, code_fin a h1]
    obtain ⟨e, T', H'⟩ := y
    cases e with
    | normal => exact code_fin b h2
    | exit j => exact h2
    | ret => exact h2
  | .cond keep q a b, T, H, r, h => by
    rw [dCode] at h
    rw [dCodeI]
    split at h
    · rename_i v hv
      obtain ⟨y, h1, h2⟩ := Option.map_eq_some_iff.1 h
      have key : (if v then dCodeI P N C a T H else dCodeI P N C b T H) = some y := by
        cases v with
        | true => simp only [if_true] at h1 ⊢; exact code_fin a h1
        | false => simp only [Bool.false_eq_true, if_false] at h1 ⊢; exact code_fin b h1
      rw [hv]
      simp only
      rw [key]
      exact congrArg some h2
    · cases h
  | .block keep id b, T, H, r, h => by
    rw [dCode] at h
    obtain ⟨y, h1, h2⟩ := Option.map_eq_some_iff.1 h
    rw [dCodeI, code_fin b h1]
    exact congrArg some h2
  | .loop keep b, T, H, r, h => by
    rw [dCode] at h
    rw [dCodeI, loopI_some]
    exact ⟨m, dLoop_body (fun T H r h => code_fin b h) h⟩
  | .exit id, _, _, _, h => h
  | .ret keep, _, _, _, h => h
  | .bad _, _, _, _, h => by simp [dCode] at h

theorem dCall_evt {P : Program} {prims : Prims} {hints : Hints} : ∀ (n : Nat), CApx (dCall P prims hints n) (dCall P prims hints)
  | 0 => fun f args H r h => by simp [dCall] at h
  | n + 1 => fun f args H r h => by
    cases hp : prims f with
    | some p =>
      simp only [dCall, hp] at h
      exact lim_some.1 (D_prim hp h)
    | none =>
      simp only [dCall, hp] at h
      obtain ⟨y, h1, rfl⟩ := Option.map_eq_some_iff.1 h
      have key : Evt (fun n => dBody P hints (dCall P prims hints n) n f args H) y := by
        unfold dBody at h1 ⊢
        cases hf : P.funcs[f]? with
        | none => rw [hf] at h1; cases h1
        | some fn =>
          rw [hf] at h1
          simp only at h1 ⊢
          cases hb : fn.body with
          | none => rw [hb] at h1; cases h1
          | some c =>
            rw [hb] at h1
            simp only at h1 ⊢
            obtain ⟨x, h2, h3⟩ := Option.bind_eq_some_iff.1 h1
            exact Evt.bind (code_apx (dCall_evt n) _ (code_fin _ h2)) (Evt.of_eq h3)
      obtain ⟨m, hm⟩ := key
      dsimp only at hm
      refine Evt.succ ⟨m, fun i hi => ?_⟩
      simp only [dCall, hp]
      rw [hm i hi]
      rfl

/-- What is reckoned with fuel is so. -/
theorem D_of {P : Program} {prims : Prims} {hints : Hints} {n : Nat} {f : FuncId} {args : List Value} {H : AHeap} {r : Value × AHeap} (h : dCall P prims hints n f args H = some r) :
    D P prims hints f args H = some r := lim_some.2 (dCall_evt n f args H r h)
/-- The same where only the value is told: a call that answers a bare value and leaves what was there. -/
theorem D_ofv {P : Program} {prims : Prims} {hints : Hints} {n : Nat} {f : FuncId} {args : List Value} {H : AHeap} {v : Value} (h : ((dCall P prims hints n f args H).map fun r => (r.1, gr 9 r.1 && still H r.2)) = some (v, true)) (hp : prims f = none) :
    D P prims hints f args H = some (v, H) := by
  cases n with
  | zero => simp [dCall] at h
  | succ n =>
    obtain ⟨r, h1, h2⟩ := Option.map_eq_some_iff.1 h
    have h0 := h1
    simp only [dCall, hp] at h1
    obtain ⟨y, h3, h4⟩ := Option.map_eq_some_iff.1 h1
    rw [D_of h0]
    obtain ⟨v1, H1⟩ := r
    simp only [Prod.mk.injEq] at h2
    obtain ⟨rfl, h2⟩ := h2
    obtain ⟨v2, H2⟩ := y
    unfold tidy at h4
    split at h4
    · simp only [Prod.mk.injEq] at h4; obtain ⟨rfl, rfl⟩ := h4; rfl
    · rename_i hn
      simp only [Prod.mk.injEq] at h4
      obtain ⟨rfl, rfl⟩ := h4
      exact absurd h2 hn

/-- A call's answer, whatever becomes of the heap. -/
theorem any_of {X : Res} {H H1 : AHeap} {v : Value} (h : X = some (tidy H (v, H1))) : ∃ H', X = some (v, H') := by
  unfold tidy at h
  split at h
  · exact ⟨_, h⟩
  · exact ⟨_, h⟩

end Go.Proofs.Ytldgonjihhndgaa.Eng

/-
  Chapter 02: calls of a clock with any numbers; what a call leaves as it is.
  Conditions: none. By an AI agent.
-/
set_option maxRecDepth 10000
set_option linter.unusedSimpArgs false
set_option linter.unusedVariables false
namespace Go.Proofs.Ytldgonjihhndgaa
open Go Eng

theorem drop_cons {α : Type} {l x : List α} {a : α} {i : Nat} (h : l.drop i = a :: x) : ∃ hi : i < l.length, l[i] = a ∧ l.drop (i + 1) = x := by
  have hi : i < l.length := by
    rcases Nat.lt_or_ge i l.length with h' | h'
    · exact h'
    · rw [List.drop_eq_nil_of_le h'] at h; cases h
  rw [List.drop_eq_getElem_cons hi] at h
  injection h with h1 h2
  exact ⟨hi, h1, h2⟩

def EI : Enc Int := ⟨1, fun a => [.int .i64 a], fun _ => rfl, by decide, fun _ => rfl⟩

/-! ### Rows and clocks that a call leaves -/
theorem Own.keepT {α : Type} {E : Enc α} {S : Nat → Prop} {H H' : AHeap} {e : TypeId} {v : Value} {l : List α} (r : Own E H e v l) (fr : Fr S H H') (hS : ∀ b, S b → ∃ cs t m, H.f b = .cells cs t m ∧ t ≠ e) : Own E H' e v l := by
  rcases r with r | ⟨hl, a, hv, hsp, hb'⟩ | ⟨b', o, c, xs, rfl, hl, hb', hf, ho, hx⟩
  · exact .inl r
  · exact .inr (.inl ⟨hl, a, hv, hsp, Nat.lt_of_lt_of_le hb' fr.n⟩)
  · refine .inr (.inr ⟨b', o, c, xs, rfl, hl, Nat.lt_of_lt_of_le hb' fr.n, ?_, ho, hx⟩)
    rw [fr.f hb' fun h => ?_]
    · exact hf
    · obtain ⟨cs, t, m, hc, ht⟩ := hS b' h
      rw [hf] at hc
      cases hc
      exact ht rfl
theorem Clk.keepT {S : Nat → Prop} {H H' : AHeap} {b : Nat} {now : Int} {l : List Al} (r : Clk H b now l) (fr : Fr S H H') (hb : ¬ S b) (hS : ∀ c, S c → ∃ cs t m, H.f c = .cells cs t m ∧ t ≠ T.clock_alarm) : Clk H' b now l := by
  obtain ⟨v, h1, h2, h3, h4⟩ := r
  exact ⟨v, by rw [fr.f h2 hb]; exact h1, Nat.lt_of_lt_of_le h2 fr.n, Own.keepT h3 fr hS, h4⟩
/-- A call that turns one clock alone leaves another one. -/
theorem Clk.other {H H' : AHeap} {b d : Nat} {nb nd : Int} {lb ld : List Al} (r : Clk H d nd ld) (c : Clk H b nb lb) (hne : d ≠ b) (fr : Fr (fun x => x = b) H H') : Clk H' d nd ld :=
  r.keepT fr hne fun x hx => by subst hx; obtain ⟨v, h1, _⟩ := c; exact ⟨_, _, _, h1, by decide⟩
theorem own_off {α : Type} {E : Enc α} {H H' : AHeap} {b : Nat} {nb : Int} {lb : List Al} {e : TypeId} {v : Value} {l : List α} (r : Own E H e v l) (c : Clk H b nb lb) (he : T.clock_Clock ≠ e) (fr : Fr (fun x => x = b) H H') : Own E H' e v l :=
  Own.keepT r fr fun x hx => by subst hx; obtain ⟨v, h1, _⟩ := c; exact ⟨_, _, _, h1, he⟩
/-- A row that has a block has it with its own type. -/
theorem own_ty {α : Type} {E : Enc α} {H : AHeap} {e : TypeId} {v : Value} {l : List α} (r : Own E H e v l) (h0 : l = [] → v = .slice none 0 0) : ∀ c, blockOf v = some c → ∃ cs t m, H.f c = .cells cs t m ∧ t = e := by
  intro c hc
  rcases r with ⟨h, rfl⟩ | ⟨h, a, rfl, _⟩ | ⟨b', o, k, xs, rfl, hl, hb', hf, ho, hx⟩
  · cases hc
  · have := h0 h; cases this
  · cases hc; exact ⟨_, _, _, hf, rfl⟩
theorem Own.appE {α : Type} {E : Enc α} {H : AHeap} {e : TypeId} {v : Value} {l m : List α} (r : Own E H e v l) {sz bytes : Nat} (hsz : sz = E.w) (hb : (l.length + m.length) * bytes ≤ 140737488355328) (hn : l.length + m.length ≤ 140737488355328)
    {src : Option (Nat × List Value)} (hsrc : src = some (m.length, E.cells m)) :
    ∃ v' H', Eng.app e sz bytes v src H = some (v', H') ∧ Own E H' e v' (l ++ m) ∧ Fr (OnlyOf v) H H' ∧ (blockOf v' = blockOf v ∨ blockOf v' = some H.n) ∧ (m = [] → v' = v) := by
  by_cases hm : m = []
  · subst hm hsrc
    refine ⟨v, H, ?_, by simpa using r, Fr.refl H, .inl rfl, fun _ => rfl⟩
    rcases r with ⟨rfl, rfl⟩ | ⟨rfl, a, rfl, _, _⟩ | ⟨b, o, c, xs, rfl, _⟩ <;> rfl
  · obtain ⟨v', H', h1, h2, h3, h4, _⟩ := Eng.Own.app r hm hsz hb hn hsrc
    exact ⟨v', H', h1, h2, h3, h4, fun h => absurd h hm⟩

/-! ### Set, Clear, Tick with any numbers -/
def setE (l : List Al) (id tm : Int) : Int × List Al :=
  if 0 ≤ id ∧ isTick tm = true then (if 0 ≤ idxFrom id l 0 then (11, l) else if 4096 ≤ (l.length : Int) then (7, l) else (0, insA l ⟨id, tm⟩)) else (2, l)
theorem idx_none {l : List Al} {id : Int} (h : ¬ 0 ≤ idxFrom id l 0) : ∀ x, x ∈ l → x.id ≠ id := by
  intro x hx he
  obtain ⟨k, _, hk, _⟩ := idxFrom_some (i := 0) ⟨x, hx, he⟩
  omega
theorem q_setE (b : Nat) (now id tm : Int) (l : List Al) (H : AHeap) (ok : Ok H) (r : Clk H b now l) (hs : Srt l) (hl : l.length ≤ 4096) :
    ∃ H', CC F.clock_Clock_Set [.pointer (some ⟨b, 0, none⟩), .int .i64 id, .int .i64 tm] H = some (.int .i64 (setE l id tm).1, H') ∧ Clk H' b now (setE l id tm).2 ∧ Fr (fun x => x = b) H H' := by
  unfold setE
  by_cases h : 0 ≤ id ∧ isTick tm = true
  · rw [if_pos h]
    by_cases h2 : 0 ≤ idxFrom id l 0
    · rw [if_pos h2]; exact ⟨H, q_Set_busy b now id tm l H r (by omega) h.1 h.2 h2, r, Fr.refl H⟩
    · rw [if_neg h2]
      by_cases h3 : 4096 ≤ (l.length : Int)
      · rw [if_pos h3]; exact ⟨H, q_Set_full b now id tm l H r (by omega) h.1 h.2 h2 h3, r, Fr.refl H⟩
      · rw [if_neg h3]; exact q_Set b now id tm l H ok r h.1 h.2 h2 h3 _ (posA_pos hs ⟨id, tm⟩)
  · rw [if_neg h]; exact ⟨H, q_Set_arg b now id tm l H r h, r, Fr.refl H⟩
theorem srt_setE {l : List Al} (hs : Srt l) (id tm : Int) : Srt (setE l id tm).2 := by
  unfold setE
  split
  · split
    · exact hs
    · rename_i h2
      split
      · exact hs
      · exact srt_insA hs fun x hx he => idx_none h2 x hx (by rw [he])
  · exact hs
theorem mem_setE {l : List Al} {id tm : Int} {a : Al} (h : a ∈ (setE l id tm).2) : a ∈ l ∨ (a = ⟨id, tm⟩ ∧ 0 ≤ id) := by
  unfold setE at h
  split at h
  · rename_i h0
    split at h
    · exact .inl h
    · split at h
      · exact .inl h
      · rcases mem_insA.1 h with h | h
        · exact .inr ⟨h, h0.1⟩
        · exact .inl h
  · exact .inl h
theorem len_setE (l : List Al) (id tm : Int) : (setE l id tm).2.length = if (setE l id tm).1 = 0 then l.length + 1 else l.length := by
  unfold setE
  split
  · split
    · simp
    · split
      · simp
      · simp [len_insA]
  · simp
theorem len_setE' {l : List Al} (hl : l.length ≤ 4096) (id tm : Int) : (setE l id tm).2.length ≤ 4096 := by
  unfold setE
  split
  · split
    · exact hl
    · split
      · exact hl
      · show (insA l ⟨id, tm⟩).length ≤ 4096
        rw [len_insA]; omega
  · exact hl

/-- The alarm before which all are due. -/
def bnd (now : Int) : Al := ⟨-1, min (now + 1) 4611686018427387904⟩
theorem lt_bnd {a : Al} {now : Int} (h : 0 ≤ a.id) : ltA a (bnd now) ↔ a.tm ≤ now ∧ a.tm < 4611686018427387904 := by
  unfold ltA bnd
  simp only
  omega
theorem due_tick {now n : Int} (h : isTick now = true) (hn : 0 ≤ n) : isTick (due now n) = true ∧ now ≤ due now n := by
  have := isTick_iff.1 h
  rw [isTick_iff]
  unfold due
  split <;> omega
theorem pos_lt {l : List Al} (hs : Srt l) (a : Al) {x : Al} (h : x ∈ l.take (posA l a)) : ltA x a := by
  obtain ⟨i, hi, rfl⟩ := List.getElem_of_mem h
  rw [List.getElem_take]
  have hi' : i < posA l a ∧ i < l.length := by simp at hi; omega
  exact cmp_lt.1 ((posA_pos hs a).2.1 i hi'.2 hi'.1)
theorem pos_ge {l : List Al} (hs : Srt l) (a : Al) {x : Al} (h : x ∈ l.drop (posA l a)) : ¬ ltA x a := by
  obtain ⟨i, hi, rfl⟩ := List.getElem_of_mem h
  rw [List.getElem_drop]
  have hi' : posA l a + i < l.length := by simp at hi; omega
  exact fun hc => (posA_pos hs a).2.2 _ hi' (by omega) (cmp_lt.2 hc)
theorem pos_le {l : List Al} (hs : Srt l) (a : Al) : posA l a ≤ l.length := (posA_pos hs a).1
/-- Where all of the first part is before, and nothing of the second one. -/
theorem posA_mid {x y : List Al} {a : Al} (hx : ∀ b, b ∈ x → ltA b a) (hy : ∀ b, b ∈ y → ¬ ltA b a) : posA (x ++ y) a = x.length := by
  unfold posA
  rw [List.takeWhile_append_of_pos fun b hb => by simpa using hx b hb]
  have : y.takeWhile (fun x => decide (ltA x a)) = [] := by
    cases y with
    | nil => rfl
    | cons b y => rw [List.takeWhile_cons, if_neg (by simpa using hy b (by simp))]
  rw [this, List.append_nil]

theorem q_tickE (b : Nat) (now n : Int) (l : List Al) (H : AHeap) (ok : Ok H) (r : Clk H b now l) (hs : Srt l) (hl : l.length ≤ 8796093022206) (ht : isTick now = true) (hn : 0 ≤ n) :
    ∃ v' H', CC F.clock_Clock_Tick [.pointer (some ⟨b, 0, none⟩), .int .i64 n] H = some (.tuple #[v', .int .i64 0], H') ∧ Own EAl H' T.api_Alarm v' (l.take (posA l (bnd (due now n)))) ∧ Clk H' b (due now n) (l.drop (posA l (bnd (due now n)))) ∧ Fr (fun x => x = b) H H' ∧ New H v' :=
  q_Tick b now n l H ok r hl ht hn _ (posA_pos hs _)

/-- What is told of a clock behind a call that may have turned it: where the call is forgotten, nothing was. -/
theorem Clk.tidied {H H' : AHeap} {b : Nat} {now now' : Int} {l l' : List Al} {v : Value} (ok : Ok H) (r : Clk H b now l) (c : Clk H' b now' l') (fr : Fr (fun x => x = b) H H') : ∃ H'', tidy H (v, H') = (v, H'') ∧ Clk H'' b now' l' ∧ Fr (fun x => x = b) H H'' := by
  unfold tidy
  split
  · rename_i hg
    simp only [Bool.and_eq_true] at hg
    refine ⟨H, rfl, ?_, Fr.refl H⟩
    obtain ⟨v, h1, h2, h3, h4⟩ := r
    obtain ⟨v', h1', h2', h3', h4'⟩ := c
    have hsame : ∀ c, c < H.n → H'.f c = H.f c := by
      intro c hc
      rcases fr.old c hc with h | ⟨h, _⟩
      · exact h.2
      · have := List.all_eq_true.1 hg.2 c (by simpa using hc)
        have := ok c
        simp at *
        omega
    rw [hsame b h2, h1] at h1'
    cases h1'
    refine ⟨v, h1, h2, ?_, h4⟩
    rcases h3' with h | ⟨hl, x, hv, hs, hb⟩ | ⟨bb, o, c, xs, hv, hlc, hb, hff, ho, hx⟩
    · exact .inl h
    · exact .inr (.inl ⟨hl, x, hv, hs, h3.blk (by rw [hv]; rfl)⟩)
    · have hbb : bb < H.n := h3.blk (by rw [hv]; rfl)
      exact .inr (.inr ⟨bb, o, c, xs, hv, hlc, hbb, by rw [← hsame bb hbb]; exact hff, ho, hx⟩)
  · exact ⟨H', rfl, c, fr⟩

/-- The law's ticks: the alarms that are due are those of a list. -/
theorem q_ticks (b : Nat) (now n : Int) (l m : List Al) (w : Value) (H : AHeap) (ok : Ok H) (r : Clk H b now l) (hs : Srt l) (hl : l.length ≤ 8796093022206) (ht : isTick now = true) (hn : 0 ≤ n)
    (hw : Own EAl H T.api_Alarm w m) (hm : l.take (posA l (bnd (due now n))) = m) :
    ∃ H', CC F.law_ticks [.pointer (some ⟨b, 0, none⟩), .int .i64 n, .int .i64 0, w] H = some (.bool true, H') ∧ Clk H' b (due now n) (l.drop (posA l (bnd (due now n)))) ∧ Fr (fun x => x = b) H H' := by
  obtain ⟨v', H1, hcall, ho, c1, fr1, _⟩ := q_tickE b now n l H ok r hs hl ht hn
  have hw1 := own_off hw r (by decide) fr1
  have hsame := q_Same _ m v' w H1 ho.rd hw1.rd (by have := pos_le hs (bnd (due now n)); simp; omega)
  rw [hm, decide_eq_true rfl] at hsame
  obtain ⟨H2, hx, c2, fr2⟩ := Clk.tidied (v := .bool true) ok r c1 fr1
  refine ⟨H2, (d_law_ticks _ _ _ _ H (r := (.bool true, H1)) ?_).trans (congrArg some hx), c2, fr2⟩
  simp (disch := first | with_reducible rfl | assumption | omega | rfl | (simp only [go_sem]; first | done | omega)) only [go_sem, ↓reduceIte, reduceCtorEq, Nat.reduceEqDiff, Nat.reduceAdd, Nat.reduceSub, Nat.reduceMul, Nat.reduceDiv, Nat.reduceMod, Nat.reduceLeDiff, Nat.reduceLT, Nat.reduceBEq, Int.reduceEq, Int.reduceBEq, Int.reduceBNe, Int.reduceLT, Int.reduceLE, Int.reduceAdd, Int.reduceSub, Int.reduceNeg, Int.reduceToNat, Int.reducePow, Nat.reducePow, Int.reduceMul, Int.reduceDiv, ↓s_law_ticks, enterK_eq hcall, enterK_eq hsame]
theorem q_ticks_bad (b : Nat) (now n : Int) (l : List Al) (H : AHeap) (r : Clk H b now l) (hn : ¬ 0 ≤ n) :
    CC F.law_ticks [.pointer (some ⟨b, 0, none⟩), .int .i64 n, .int .i64 2, .slice none 0 0] H = some (.bool true, H) := by
  have hcall := q_Tick_bad b now n l H r fun h => hn h.2
  have hsame := q_Same [] [] (.slice none 0 0) (.slice none 0 0) H (.inl ⟨rfl, rfl⟩) (.inl ⟨rfl, rfl⟩) (by simp)
  rw [decide_eq_true rfl] at hsame
  apply pure_of _ (d_law_ticks _ _ _ _ H) rfl
  rotate_left 2
  · simp (disch := first | with_reducible rfl | assumption | omega | rfl | (simp only [go_sem]; first | done | omega)) only [go_sem, ↓reduceIte, reduceCtorEq, Nat.reduceEqDiff, Nat.reduceAdd, Nat.reduceSub, Nat.reduceMul, Nat.reduceDiv, Nat.reduceMod, Nat.reduceLeDiff, Nat.reduceLT, Nat.reduceBEq, Int.reduceEq, Int.reduceBEq, Int.reduceBNe, Int.reduceLT, Int.reduceLE, Int.reduceAdd, Int.reduceSub, Int.reduceNeg, Int.reduceToNat, Int.reducePow, Nat.reducePow, Int.reduceMul, Int.reduceDiv, ↓s_law_ticks, enterK_eq hcall, enterK_eq hsame]
    rfl
  · (repeat (first | exact Fr.refl _ | refine Fr.push ?_ _ | refine Fr.set ?_ _ _ (by intro h; first | omega | (simp only [go_sem] at h; omega))))

end Go.Proofs.Ytldgonjihhndgaa

/-
  Chapter 02: the methods of the reference's clock.
  Conditions: none. By an AI agent.
-/
set_option maxRecDepth 10000
set_option linter.unusedSimpArgs false
set_option linter.unusedVariables false
namespace Go.Proofs.Ytldgonjihhndgaa
open Go Eng

theorem any_tidied {P : AHeap → Prop} {H H' : AHeap} {X : Value} (hs : Still H H') (hp : P H') (hX : gr 9 X = true → P H) : ∃ H'', tidy H (X, H') = (X, H'') ∧ P H'' ∧ Still H H'' := by
  unfold tidy
  split
  · rename_i hg
    simp only [Bool.and_eq_true] at hg
    exact ⟨H, rfl, hX hg.1, Fr.refl H⟩
  · exact ⟨H', rfl, hp, hs⟩
theorem Own.hi' {α : Type} {E : Enc α} {H : AHeap} {v : Value} {l : List α} {e : TypeId} (r : Own E H e v l) {sz : Nat} (hsz : sz = E.w) {i : Nat} (hi : i ≤ l.length) {q : IntKind} : ∃ v', slS e sz v none (some (.int q (i : Int))) none H = some v' ∧ Rd E H v' (l.take i) := by
  subst hsz
  rcases r with ⟨rfl, rfl⟩ | ⟨rfl, ⟨b, o, s⟩, rfl, hs, hbb⟩ | ⟨b, o, c, xs, rfl, hl, hbn, hf, ho, hx⟩
  · simp only [List.length_nil, Nat.le_zero_eq] at hi
    subst hi
    exact ⟨.slice none 0 0, rfl, .inl ⟨by simp, rfl⟩⟩
  · simp only at hs
    subst hs
    simp only [List.length_nil, Nat.le_zero_eq] at hi
    subst hi
    exact ⟨.slice (some ⟨b, o, none⟩) 0 0, by simp [slS, lowOf, highOf, Eng.bnd], .inr (.inl ⟨by simp, _, _, rfl, rfl⟩)⟩
  · have hmul := Nat.mul_le_mul_right E.w hl
    have hmi := Nat.mul_le_mul_right E.w hi
    refine ⟨_, sl_hi hf (Nat.le_trans hi hl), ?_⟩
    have hlen : (l.take i).length = i := by simp; omega
    by_cases h0 : i = 0
    · subst h0; exact .inr (.inl ⟨by simp, _, _, rfl, rfl⟩)
    · refine .inr (.inr ⟨b, o, _, by rw [hlen], fun h => h0 (by rw [← hlen, h]; rfl), hbn, ?_⟩)
      rw [hlen, hf, cutB_c (by omega), ← E.cells_take, ← hx, List.take_take, Nat.min_eq_left hmi]
theorem litA (a : Al) (H : AHeap) : Rd EAl (H.push (.cells [.int .i64 a.id, .int .i64 a.tm] T.api_Alarm true)) (.slice (some ⟨H.n, 0, none⟩) 1 2) [a] := by
  refine .inr (.inr ⟨H.n, 0, 2, rfl, by simp, by simp, ?_⟩)
  rw [push_f_eq rfl]
  rfl
abbrev rowA (H : AHeap) (v : Value) (l : List Al) : Prop := Own EAl H T.api_Alarm v l
theorem row_gr {H H' : AHeap} {v : Value} {l : List Al} (r : rowA H' v l) (h : gr 8 v = true) : rowA H v l := by
  rcases r with h' | ⟨_, a, h', _⟩ | ⟨b, o, c, xs, h', _⟩
  · exact .inl h'
  · rw [h'] at h; exact absurd h (by simp [gr])
  · rw [h'] at h; exact absurd h (by simp [gr])

/-! ### has, Next -/
def hasA (l : List Al) (id : Int) : Bool := l.any fun y => decide (y.id = id)
theorem has_idx {l : List Al} {id : Int} : hasA l id = true ↔ 0 ≤ idxFrom id l 0 := by
  constructor
  · intro h
    obtain ⟨x, hx, he⟩ := List.any_eq_true.1 h
    obtain ⟨k, _, hk, _⟩ := idxFrom_some (i := 0) ⟨x, hx, of_decide_eq_true he⟩
    omega
  · intro h
    refine Classical.byContradiction fun hn => ?_
    rw [idxFrom_neg fun x hx he => hn (List.any_eq_true.2 ⟨x, hx, decide_eq_true he⟩)] at h
    omega

theorem l_has (l : List Al) (now id : Int) (a : Option Addr) (n k bt : Nat) (H : AHeap) (hf : H.f bt = .cells [.int .i64 now, .slice a n k] T.ref02_Clock true) (hr : Rd EAl H (.slice a n k) l) (hl : l.length ≤ 5000) : ∀ (x : List Al) (i : Nat), l.drop i = x →
    (hasA x id = true ∧ ∀ K : K, l_ref02_Clock_has_0 (.int .i64 id) (.pointer (some ⟨bt, 0, none⟩)) (.int .i64 (i : Int)) H (blkK [] 0 K) = K .ret [(4, .bool true)] H) ∨
    (hasA x id = false ∧ ∀ K : K, l_ref02_Clock_has_0 (.int .i64 id) (.pointer (some ⟨bt, 0, none⟩)) (.int .i64 (i : Int)) H (blkK [] 0 K) = K .normal [] H)
  | [], i, hx => by
    have h : l.length ≤ i := List.drop_eq_nil_iff.1 hx
    have hlt : ¬ (i : Int) < (l.length : Int) := by omega
    have hlen := hr.lenS
    refine .inr ⟨rfl, fun K => ?_⟩
    rw [r_ref02_Clock_has_0]
    simp (disch := first | with_reducible rfl | assumption | omega | rfl | (simp only [go_sem]; first | done | omega)) only [go_sem, ↓reduceIte, reduceCtorEq, Nat.reduceEqDiff, Nat.reduceAdd, Nat.reduceSub, Nat.reduceMul, Nat.reduceDiv, Nat.reduceMod, Nat.reduceLeDiff, Nat.reduceLT, Nat.reduceBEq, Int.reduceEq, Int.reduceBEq, Int.reduceBNe, Int.reduceLT, Int.reduceLE, Int.reduceAdd, Int.reduceSub, Int.reduceNeg, Int.reduceToNat, Int.reducePow, Nat.reducePow, Int.reduceMul, Int.reduceDiv, ↓s_ref02_Clock_has_b0, hf, hlen, hlt]
  | y :: x, i, hx => by
    obtain ⟨h, hxa, hx'⟩ := drop_cons hx
    have hlt : (i : Int) < (l.length : Int) := by omega
    have hlen := hr.lenS
    obtain ⟨b1, o1, hix, hb1, hc1, _⟩ := hr.ix (q := .i64) h
    rw [hxa] at hc1
    have hix : ixS 2 (.slice a n k) (.int .i64 i) = some (.pointer (some ⟨b1, o1, none⟩)) := hix
    have hck : cellB (H.f b1) o1 = some (.int .i64 y.id) := cutB_cell hc1 (i := 0) (by decide)
    by_cases he : y.id = id
    · refine .inl ⟨by simp [hasA, he], fun K => ?_⟩
      rw [r_ref02_Clock_has_0]
      simp (disch := first | with_reducible rfl | assumption | omega | rfl | (simp only [go_sem]; first | done | omega)) only [go_sem, ↓reduceIte, reduceCtorEq, Nat.reduceEqDiff, Nat.reduceAdd, Nat.reduceSub, Nat.reduceMul, Nat.reduceDiv, Nat.reduceMod, Nat.reduceLeDiff, Nat.reduceLT, Nat.reduceBEq, Int.reduceEq, Int.reduceBEq, Int.reduceBNe, Int.reduceLT, Int.reduceLE, Int.reduceAdd, Int.reduceSub, Int.reduceNeg, Int.reduceToNat, Int.reducePow, Nat.reducePow, Int.reduceMul, Int.reduceDiv, ↓s_ref02_Clock_has_b0, hf, hlen, hlt, hix, hck, decide_eq_true he]
    · have step : ∀ K : K, l_ref02_Clock_has_0 (.int .i64 id) (.pointer (some ⟨bt, 0, none⟩)) (.int .i64 (i : Int)) H (blkK [] 0 K) = l_ref02_Clock_has_0 (.int .i64 id) (.pointer (some ⟨bt, 0, none⟩)) (.int .i64 ((i + 1 : Nat) : Int)) H (blkK [] 0 K) := fun K => by
        rw [r_ref02_Clock_has_0, Int.natCast_add]
        simp (disch := first | with_reducible rfl | assumption | omega | rfl | (simp only [go_sem]; first | done | omega)) only [go_sem, ↓reduceIte, reduceCtorEq, Nat.reduceEqDiff, Nat.reduceAdd, Nat.reduceSub, Nat.reduceMul, Nat.reduceDiv, Nat.reduceMod, Nat.reduceLeDiff, Nat.reduceLT, Nat.reduceBEq, Int.reduceEq, Int.reduceBEq, Int.reduceBNe, Int.reduceLT, Int.reduceLE, Int.reduceAdd, Int.reduceSub, Int.reduceNeg, Int.reduceToNat, Int.reducePow, Nat.reducePow, Int.reduceMul, Int.reduceDiv, ↓s_ref02_Clock_has_b0, hf, hlen, hlt, hix, hck, decide_eq_false he]
      have e : hasA (y :: x) id = hasA x id := by unfold hasA; rw [List.any_cons, decide_eq_false he, Bool.false_or]
      rw [e]
      rcases l_has l now id a n k bt H hf hr hl x (i + 1) hx' with ⟨q, ih⟩ | ⟨q, ih⟩
      · exact .inl ⟨q, fun K => (step K).trans (ih K)⟩
      · exact .inr ⟨q, fun K => (step K).trans (ih K)⟩
theorem q_has (l : List Al) (now id : Int) (a : Option Addr) (n k : Nat) (H : AHeap) (hr : Rd EAl H (.slice a n k) l) (hl : l.length ≤ 5000) : CC F.ref02_Clock_has [.agg #[.int .i64 now, .slice a n k], .int .i64 id] H = some (.bool (hasA l id), H) := by
  generalize hH1 : H.push (.cells [.int .i64 now, .slice a n k] T.ref02_Clock true) = H1
  have s1 : Still H H1 := by rw [← hH1]; exact (Fr.refl H).push _
  have f1 : H1.f H.n = .cells [.int .i64 now, .slice a n k] T.ref02_Clock true := by rw [← hH1]; exact push_f_eq rfl
  refine pure_of (H' := H1) ?_ (d_ref02_Clock_has _ _ H) rfl s1
  simp (disch := first | with_reducible rfl | assumption | omega | rfl | (simp only [go_sem]; first | done | omega)) only [go_sem, ↓reduceIte, reduceCtorEq, Nat.reduceEqDiff, Nat.reduceAdd, Nat.reduceSub, Nat.reduceMul, Nat.reduceDiv, Nat.reduceMod, Nat.reduceLeDiff, Nat.reduceLT, Nat.reduceBEq, Int.reduceEq, Int.reduceBEq, Int.reduceBNe, Int.reduceLT, Int.reduceLE, Int.reduceAdd, Int.reduceSub, Int.reduceNeg, Int.reduceToNat, Int.reducePow, Nat.reducePow, Int.reduceMul, Int.reduceDiv, ↓s_ref02_Clock_has, hH1]
  rcases l_has l now id a n k H.n H1 f1 (hr.still s1) hl l 0 rfl with ⟨q, ih⟩ | ⟨q, ih⟩
  · rw [q]
    refine (ih _).trans ?_
    simp (disch := first | with_reducible rfl | assumption | omega | rfl | (simp only [go_sem]; first | done | omega)) only [go_sem, ↓reduceIte, reduceCtorEq, Nat.reduceEqDiff, Nat.reduceAdd, Nat.reduceSub, Nat.reduceMul, Nat.reduceDiv, Nat.reduceMod, Nat.reduceLeDiff, Nat.reduceLT, Nat.reduceBEq, Int.reduceEq, Int.reduceBEq, Int.reduceBNe, Int.reduceLT, Int.reduceLE, Int.reduceAdd, Int.reduceSub, Int.reduceNeg, Int.reduceToNat, Int.reducePow, Nat.reducePow, Int.reduceMul, Int.reduceDiv]
  · rw [q]
    refine (ih _).trans ?_
    simp (disch := first | with_reducible rfl | assumption | omega | rfl | (simp only [go_sem]; first | done | omega)) only [go_sem, ↓reduceIte, reduceCtorEq, Nat.reduceEqDiff, Nat.reduceAdd, Nat.reduceSub, Nat.reduceMul, Nat.reduceDiv, Nat.reduceMod, Nat.reduceLeDiff, Nat.reduceLT, Nat.reduceBEq, Int.reduceEq, Int.reduceBEq, Int.reduceBNe, Int.reduceLT, Int.reduceLE, Int.reduceAdd, Int.reduceSub, Int.reduceNeg, Int.reduceToNat, Int.reducePow, Nat.reducePow, Int.reduceMul, Int.reduceDiv]
theorem q_RNext (l : List Al) (now : Int) (a : Option Addr) (n k : Nat) (H : AHeap) (hr : Rd EAl H (.slice a n k) l) : CC F.ref02_Clock_Next [.agg #[.int .i64 now, .slice a n k]] H = some (.int .i64 (nextOf l), H) := by
  generalize hH1 : H.push (.cells [.int .i64 now, .slice a n k] T.ref02_Clock true) = H1
  have s1 : Still H H1 := by rw [← hH1]; exact (Fr.refl H).push _
  have f1 : H1.f H.n = .cells [.int .i64 now, .slice a n k] T.ref02_Clock true := by rw [← hH1]; exact push_f_eq rfl
  have hlen := (hr.still s1).lenS
  refine pure_of (H' := H1) ?_ (d_ref02_Clock_Next _ H) rfl s1
  cases l with
  | nil => simp (disch := first | with_reducible rfl | assumption | omega | rfl | (simp only [go_sem]; first | done | omega)) only [go_sem, ↓reduceIte, reduceCtorEq, Nat.reduceEqDiff, Nat.reduceAdd, Nat.reduceSub, Nat.reduceMul, Nat.reduceDiv, Nat.reduceMod, Nat.reduceLeDiff, Nat.reduceLT, Nat.reduceBEq, Int.reduceEq, Int.reduceBEq, Int.reduceBNe, Int.reduceLT, Int.reduceLE, Int.reduceAdd, Int.reduceSub, Int.reduceNeg, Int.reduceToNat, Int.reducePow, Nat.reducePow, Int.reduceMul, Int.reduceDiv, ↓s_ref02_Clock_Next, hH1, f1, hlen, nextOf]
  | cons y l =>
    have hne : ¬ (l.length : Int) + 1 = 0 := by omega
    rw [List.length_cons, Int.natCast_add] at hlen
    obtain ⟨b1, o1, hix, hb1, hc1, _⟩ := (hr.still s1).ix (q := .i64) (i := 0) (by simp)
    have hix : ixS 2 (.slice a n k) (.int .i64 0) = some (.pointer (some ⟨b1, o1, none⟩)) := hix
    have hck : cellB (H1.f b1) (o1 + 1) = some (.int .i64 y.tm) := cutB_cell hc1 (i := 1) (by decide)
    simp (disch := first | with_reducible rfl | assumption | omega | rfl | (simp only [go_sem]; first | done | omega)) only [go_sem, ↓reduceIte, reduceCtorEq, Nat.reduceEqDiff, Nat.reduceAdd, Nat.reduceSub, Nat.reduceMul, Nat.reduceDiv, Nat.reduceMod, Nat.reduceLeDiff, Nat.reduceLT, Nat.reduceBEq, Int.reduceEq, Int.reduceBEq, Int.reduceBNe, Int.reduceLT, Int.reduceLE, Int.reduceAdd, Int.reduceSub, Int.reduceNeg, Int.reduceToNat, Int.reducePow, Nat.reducePow, Int.reduceMul, Int.reduceDiv, ↓s_ref02_Clock_Next, hH1, f1, hlen, decide_eq_false hne, hix, hck, nextOf]

/-! ### Set -/
theorem l_Rpos (l : List Al) (now id tm : Int) (a : Option Addr) (n k bt : Nat) (t6 : Value) (H : AHeap) (hf : H.f bt = .cells [.int .i64 now, .slice a n k] T.ref02_Clock true) (hr : Rd EAl H (.slice a n k) l) (hl : l.length ≤ 5000) (K : K) : ∀ (x : List Al) (i : Nat), l.drop i = x →
    l_ref02_Clock_Set_0 (.int .i64 id) (.int .i64 tm) (.pointer (some ⟨bt, 0, none⟩)) t6 (.int .i64 (i : Int)) H (blkK [1, 2, 3, 6, 8] 0 K) = K .normal [(1, .int .i64 id), (2, .int .i64 tm), (3, .pointer (some ⟨bt, 0, none⟩)), (6, t6), (8, .int .i64 ((i + posA x ⟨id, tm⟩ : Nat) : Int))] H
  | [], i, hx => by
    have h : l.length ≤ i := List.drop_eq_nil_iff.1 hx
    have hlt : ¬ (i : Int) < (l.length : Int) := by omega
    have hlen := hr.lenS
    have hp : i + posA [] ⟨id, tm⟩ = i := rfl
    rw [r_ref02_Clock_Set_0, hp]
    simp (disch := first | with_reducible rfl | assumption | omega | rfl | (simp only [go_sem]; first | done | omega)) only [go_sem, ↓reduceIte, reduceCtorEq, Nat.reduceEqDiff, Nat.reduceAdd, Nat.reduceSub, Nat.reduceMul, Nat.reduceDiv, Nat.reduceMod, Nat.reduceLeDiff, Nat.reduceLT, Nat.reduceBEq, Int.reduceEq, Int.reduceBEq, Int.reduceBNe, Int.reduceLT, Int.reduceLE, Int.reduceAdd, Int.reduceSub, Int.reduceNeg, Int.reduceToNat, Int.reducePow, Nat.reducePow, Int.reduceMul, Int.reduceDiv, ↓s_ref02_Clock_Set_b0, hf, hlen, hlt]
  | y :: x, i, hx => by
    obtain ⟨h, hxa, hx'⟩ := drop_cons hx
    have hlt : (i : Int) < (l.length : Int) := by omega
    have hlen := hr.lenS
    obtain ⟨b1, o1, hix, hb1, hc1, _⟩ := hr.ix (q := .i64) h
    rw [hxa] at hc1
    have hix : ixS 2 (.slice a n k) (.int .i64 i) = some (.pointer (some ⟨b1, o1, none⟩)) := hix
    have hck : cellB (H.f b1) o1 = some (.int .i64 y.id) := cutB_cell hc1 (i := 0) (by decide)
    have hck2 : cellB (H.f b1) (o1 + 1) = some (.int .i64 y.tm) := cutB_cell hc1 (i := 1) (by decide)
    by_cases hlt2 : ltA y ⟨id, tm⟩
    · have hp : i + posA (y :: x) ⟨id, tm⟩ = (i + 1) + posA x ⟨id, tm⟩ := by
        unfold posA; rw [List.takeWhile_cons, if_pos (decide_eq_true hlt2)]; simp; omega
      have ih := l_Rpos l now id tm a n k bt t6 H hf hr hl K x (i + 1) hx'
      rw [r_ref02_Clock_Set_0, hp]
      rw [Int.natCast_add i 1] at ih
      by_cases c1 : y.tm < tm
      · simp (disch := first | with_reducible rfl | assumption | omega | rfl | (simp only [go_sem]; first | done | omega)) only [go_sem, ↓reduceIte, reduceCtorEq, Nat.reduceEqDiff, Nat.reduceAdd, Nat.reduceSub, Nat.reduceMul, Nat.reduceDiv, Nat.reduceMod, Nat.reduceLeDiff, Nat.reduceLT, Nat.reduceBEq, Int.reduceEq, Int.reduceBEq, Int.reduceBNe, Int.reduceLT, Int.reduceLE, Int.reduceAdd, Int.reduceSub, Int.reduceNeg, Int.reduceToNat, Int.reducePow, Nat.reducePow, Int.reduceMul, Int.reduceDiv, ↓s_ref02_Clock_Set_b0, hf, hlen, hlt, hix, hck, hck2, decide_eq_true c1]
        exact ih
      · have c2 : y.tm = tm ∧ y.id < id := by unfold ltA at hlt2; simp only at hlt2; omega
        simp (disch := first | with_reducible rfl | assumption | omega | rfl | (simp only [go_sem]; first | done | omega)) only [go_sem, ↓reduceIte, reduceCtorEq, Nat.reduceEqDiff, Nat.reduceAdd, Nat.reduceSub, Nat.reduceMul, Nat.reduceDiv, Nat.reduceMod, Nat.reduceLeDiff, Nat.reduceLT, Nat.reduceBEq, Int.reduceEq, Int.reduceBEq, Int.reduceBNe, Int.reduceLT, Int.reduceLE, Int.reduceAdd, Int.reduceSub, Int.reduceNeg, Int.reduceToNat, Int.reducePow, Nat.reducePow, Int.reduceMul, Int.reduceDiv, ↓s_ref02_Clock_Set_b0, hf, hlen, hlt, hix, hck, hck2, decide_eq_false c1, decide_eq_true c2.1, decide_eq_true c2.2]
        exact ih
    · have hp : i + posA (y :: x) ⟨id, tm⟩ = i := by
        unfold posA; rw [List.takeWhile_cons, if_neg (by simpa using hlt2)]; simp
      rw [r_ref02_Clock_Set_0, hp]
      have c1 : ¬ y.tm < tm := fun h => hlt2 (.inl h)
      by_cases c2 : y.tm = tm
      · have c3 : ¬ y.id < id := fun h => hlt2 (.inr ⟨c2, h⟩)
        simp (disch := first | with_reducible rfl | assumption | omega | rfl | (simp only [go_sem]; first | done | omega)) only [go_sem, ↓reduceIte, reduceCtorEq, Nat.reduceEqDiff, Nat.reduceAdd, Nat.reduceSub, Nat.reduceMul, Nat.reduceDiv, Nat.reduceMod, Nat.reduceLeDiff, Nat.reduceLT, Nat.reduceBEq, Int.reduceEq, Int.reduceBEq, Int.reduceBNe, Int.reduceLT, Int.reduceLE, Int.reduceAdd, Int.reduceSub, Int.reduceNeg, Int.reduceToNat, Int.reducePow, Nat.reducePow, Int.reduceMul, Int.reduceDiv, ↓s_ref02_Clock_Set_b0, hf, hlen, hlt, hix, hck, hck2, decide_eq_false c1, decide_eq_true c2, decide_eq_false c3]
      · simp (disch := first | with_reducible rfl | assumption | omega | rfl | (simp only [go_sem]; first | done | omega)) only [go_sem, ↓reduceIte, reduceCtorEq, Nat.reduceEqDiff, Nat.reduceAdd, Nat.reduceSub, Nat.reduceMul, Nat.reduceDiv, Nat.reduceMod, Nat.reduceLeDiff, Nat.reduceLT, Nat.reduceBEq, Int.reduceEq, Int.reduceBEq, Int.reduceBNe, Int.reduceLT, Int.reduceLE, Int.reduceAdd, Int.reduceSub, Int.reduceNeg, Int.reduceToNat, Int.reducePow, Nat.reducePow, Int.reduceMul, Int.reduceDiv, ↓s_ref02_Clock_Set_b0, hf, hlen, hlt, hix, hck, hck2, decide_eq_false c1, decide_eq_false c2]

end Go.Proofs.Ytldgonjihhndgaa

/-
  Chapter 02: the reference's Set, Clear, Pass.
  Conditions: none. By an AI agent.
-/
set_option maxRecDepth 10000
set_option linter.unusedSimpArgs false
set_option linter.unusedVariables false
namespace Go.Proofs.Ytldgonjihhndgaa
open Go Eng

@[go_sem] theorem xload_RClock {a : Value} {H : AHeap} : xload Try.prog T.ref02_Clock a H = ldN 2 H a := by kernel_rfl
theorem row_ref {x e : Int} {H H' : AHeap} {v : Value} {l : List Al} (r : rowA H' v l) (h : gr 9 (.tuple #[.agg #[.int .i64 x, v], .int .i64 e]) = true) : rowA H v l := by
  rcases r with h' | ⟨_, a, rfl, _⟩ | ⟨b, o, c, xs, rfl, _⟩
  · exact .inl h'
  · exact absurd h (by simp [gr])
  · exact absurd h (by simp [gr])
theorem Own.shape {α : Type} {E : Enc α} {H : AHeap} {e : TypeId} {v : Value} {l : List α} (r : Own E H e v l) : ∃ a n k, v = .slice a n k := by
  rcases r with ⟨_, h⟩ | ⟨_, a, h, _⟩ | ⟨b, o, c, xs, h, _⟩ <;> exact ⟨_, _, _, h⟩

theorem q_RSet (l : List Al) (now id tm : Int) (a : Option Addr) (n k : Nat) (H : AHeap) (ho : rowA H (.slice a n k) l) (hl : l.length ≤ 4096) :
    ∃ a' n' k' H', CC F.ref02_Clock_Set [.agg #[.int .i64 now, .slice a n k], .int .i64 id, .int .i64 tm] H = some (.tuple #[.agg #[.int .i64 now, .slice a' n' k'], .int .i64 (setE l id tm).1], H') ∧ rowA H' (.slice a' n' k') (setE l id tm).2 ∧ Still H H' := by
  generalize hA1 : H.push (.cells [.int .i64 now, .slice a n k] T.ref02_Clock true) = A1
  have s1 : Still H A1 := by rw [← hA1]; exact (Fr.refl H).push _
  have n1 : A1.n = H.n + 1 := by rw [← hA1]; rfl
  have f1 : A1.f H.n = .cells [.int .i64 now, .slice a n k] T.ref02_Clock true := by rw [← hA1]; exact push_f_eq rfl
  generalize hA2 : A1.push (.cells [.int .i64 0, .slice none 0 0] T.ref02_Clock true) = A2
  have s2 : Still A1 A2 := by rw [← hA2]; exact (Fr.refl A1).push _
  have n2 : A2.n = A1.n + 1 := by rw [← hA2]; rfl
  have f2 : A2.f A1.n = .cells [.int .i64 0, .slice none 0 0] T.ref02_Clock true := by rw [← hA2]; exact push_f_eq rfl
  have f21 : A2.f H.n = .cells [.int .i64 now, .slice a n k] T.ref02_Clock true := by rw [s2.f (by omega) (fun h => h), f1]
  have s12 : Still H A2 := s1.still.then s2 fun _ _ h => h
  have ho2 : rowA A2 (.slice a n k) l := Own.still ho s12
  have hlen := ho2.rd.lenS
  generalize hA3 : A2.set A1.n (.cells [.int .i64 now, .slice a n k] T.ref02_Clock true) = A3
  have s3 : Still H A3 := by rw [← hA3]; exact Fr.set s12 _ _ fun h => by omega
  have f3 : A3.f A1.n = .cells [.int .i64 now, .slice a n k] T.ref02_Clock true := by rw [← hA3]; exact set_f_eq
  have old : ∀ e : Int, ∃ H'', tidy H (.tuple #[.agg #[.int .i64 now, .slice a n k], .int .i64 e], A3) = (.tuple #[.agg #[.int .i64 now, .slice a n k], .int .i64 e], H'') ∧ rowA H'' (.slice a n k) l ∧ Still H H'' := fun e =>
    any_tidied (P := fun G => rowA G (.slice a n k) l) s3 (Own.still ho s3) fun _ => ho
  have hhas := q_has l now id a n k A2 ho2.rd (by omega)
  unfold setE
  by_cases h : 0 ≤ id ∧ isTick tm = true
  · rw [if_pos h]
    have hid : ¬ id < 0 := by omega
    have ht := h.2
    by_cases h2 : 0 ≤ idxFrom id l 0
    · rw [if_pos h2]
      obtain ⟨H'', hx, r, s⟩ := old 11
      rw [has_idx.2 h2] at hhas
      refine ⟨a, n, k, H'', (d_ref02_Clock_Set _ _ _ H (r := (.tuple #[.agg #[.int .i64 now, .slice a n k], .int .i64 11], A3)) ?_).trans (congrArg some hx), r, s⟩
      simp (disch := first | with_reducible rfl | assumption | omega | rfl | (simp only [go_sem]; first | done | omega)) only [go_sem, ↓reduceIte, reduceCtorEq, Nat.reduceEqDiff, Nat.reduceAdd, Nat.reduceSub, Nat.reduceMul, Nat.reduceDiv, Nat.reduceMod, Nat.reduceLeDiff, Nat.reduceLT, Nat.reduceBEq, Int.reduceEq, Int.reduceBEq, Int.reduceBNe, Int.reduceLT, Int.reduceLE, Int.reduceAdd, Int.reduceSub, Int.reduceNeg, Int.reduceToNat, Int.reducePow, Nat.reducePow, Int.reduceMul, Int.reduceDiv, ↓s_ref02_Clock_Set, hA1, hA2, decide_eq_false hid, e_ref_Tick, ht, f21, enterK_eq hhas, f2, hA3, f3]
    · rw [if_neg h2]
      have hh : hasA l id = false := by
        cases hb : hasA l id with
        | false => rfl
        | true => exact absurd (has_idx.1 hb) h2
      rw [hh] at hhas
      by_cases h3 : 4096 ≤ (l.length : Int)
      · rw [if_pos h3]
        have he : (l.length : Int) = 4096 := by omega
        obtain ⟨H'', hx, r, s⟩ := old 7
        refine ⟨a, n, k, H'', (d_ref02_Clock_Set _ _ _ H (r := (.tuple #[.agg #[.int .i64 now, .slice a n k], .int .i64 7], A3)) ?_).trans (congrArg some hx), r, s⟩
        simp (disch := first | with_reducible rfl | assumption | omega | rfl | (simp only [go_sem]; first | done | omega)) only [go_sem, ↓reduceIte, reduceCtorEq, Nat.reduceEqDiff, Nat.reduceAdd, Nat.reduceSub, Nat.reduceMul, Nat.reduceDiv, Nat.reduceMod, Nat.reduceLeDiff, Nat.reduceLT, Nat.reduceBEq, Int.reduceEq, Int.reduceBEq, Int.reduceBNe, Int.reduceLT, Int.reduceLE, Int.reduceAdd, Int.reduceSub, Int.reduceNeg, Int.reduceToNat, Int.reducePow, Nat.reducePow, Int.reduceMul, Int.reduceDiv, ↓s_ref02_Clock_Set, hA1, hA2, decide_eq_false hid, e_ref_Tick, ht, f21, enterK_eq hhas, hlen, decide_eq_true he, f2, hA3, f3]
      · rw [if_neg h3]
        have he : ¬ (l.length : Int) = 4096 := by omega
        have hloop := fun K => l_Rpos l now id tm a n k H.n (.pointer (some ⟨A1.n, 0, none⟩)) A2 f21 ho2.rd (by omega) K l 0 rfl
        have hp : posA l ⟨id, tm⟩ ≤ l.length := by
          unfold posA
          exact List.Sublist.length_le (List.takeWhile_sublist _)
        simp only [Nat.zero_add] at hloop
        show ∃ a' n' k' H', _ ∧ rowA H' _ (insA l ⟨id, tm⟩) ∧ _
        unfold insA
        generalize posA l ⟨id, tm⟩ = p at hloop hp ⊢
        obtain ⟨w0, hw0, rd0⟩ := Own.hi' ho2 (sz := 2) rfl hp (q := .i64)
        have hlt : (l.take p).length ≤ 4096 := by simp; omega
        obtain ⟨w1, A4, happ1, o1, fr1, hb1, _⟩ := Own.appE (E := EAl) (H := A2) (e := T.api_Alarm) (v := .slice none 0 0) (l := []) (m := l.take p) (.inl ⟨rfl, rfl⟩) (sz := 2) (bytes := 16) rfl (by simp; omega) (by simp; omega) (rd0.src (sz := 2) rfl)
        rw [List.nil_append] at o1
        have s4 : Still A2 A4 := fr1.mono fun c _ h => by unfold OnlyOf at h; cases h
        have n4 : A2.n ≤ A4.n := s4.n
        have hb1' : ∀ c, blockOf w1 = some c → c = A2.n := fun c hc => by
          rcases hb1 with e | e
          · rw [e] at hc; cases hc
          · rw [e] at hc; cases hc; rfl
        generalize hA5 : A4.push (.cells [.int .i64 id, .int .i64 tm] T.api_Alarm true) = A5
        have s5 : Still A4 A5 := by rw [← hA5]; exact (Fr.refl A4).push _
        have n5 : A5.n = A4.n + 1 := by rw [← hA5]; rfl
        have hlit := litA ⟨id, tm⟩ A4
        rw [show A4.push (.cells [.int .i64 (Al.mk id tm).id, .int .i64 (Al.mk id tm).tm] T.api_Alarm true) = A5 from hA5] at hlit
        obtain ⟨w2, A6, happ2, o2, fr2, hb2, _⟩ := Own.appE (Own.still o1 s5) (m := [⟨id, tm⟩]) (sz := 2) (bytes := 16) rfl (by simp; omega) (by simp; omega) (hlit.src (sz := 2) rfl)
        have n6 : A5.n ≤ A6.n := fr2.n
        have hb2' : ∀ c, blockOf w2 = some c → A2.n ≤ c := fun c hc => by
          rcases hb2 with e | e
          · rw [e] at hc; rw [hb1' c hc]; exact Nat.le_refl _
          · rw [e] at hc; cases hc; omega
        have off2 : ∀ c, c < A2.n → ¬ OnlyOf w1 c := fun c hc h => by have := hb1' c h; omega
        have s25 : Still A2 A5 := s4.still.then s5 fun _ _ h => h
        have s26 : Still A2 A6 := s25.still.then fr2 fun c hc h => off2 c hc h
        have ho6 : rowA A6 (.slice a n k) l := Own.still ho2 s26
        have f61 : A6.f H.n = .cells [.int .i64 now, .slice a n k] T.ref02_Clock true := by rw [s26.f (by omega) (fun h => h), f21]
        obtain ⟨w3, hw3, o3, hb3⟩ := ho6.drop (sz := 2) rfl hp (q := .i64)
        have hld : (l.drop p).length ≤ 4096 := by simp; omega
        obtain ⟨w4, A7, happ3, o4, fr3, hb4, _⟩ := Own.appE o2 (m := l.drop p) (sz := 2) (bytes := 16) rfl (by simp; omega) (by simp; omega) (o3.rd.src (sz := 2) rfl)
        have n7 : A6.n ≤ A7.n := fr3.n
        have hb4' : ∀ c, blockOf w4 = some c → A2.n ≤ c := fun c hc => by
          rcases hb4 with e | e
          · rw [e] at hc; exact hb2' c hc
          · rw [e] at hc; cases hc; omega
        have s27 : Still A2 A7 := s26.still.then fr3 fun c hc h => by have := hb2' c h; omega
        have f7 : A7.f A1.n = .cells [.int .i64 0, .slice none 0 0] T.ref02_Clock true := by rw [s27.f (by omega) (fun h => h), f2]
        rw [List.append_assoc, List.singleton_append] at o4
        obtain ⟨a4, k4, c4, rfl⟩ := Own.shape o4
        generalize hA8 : A7.set A1.n (.cells [.int .i64 now, .slice a4 k4 c4] T.ref02_Clock true) = A8
        have fr8 : Fr (fun c => c = A1.n) A7 A8 := by rw [← hA8]; exact Fr.set (Fr.refl A7) _ _ fun _ => rfl
        have f8 : A8.f A1.n = .cells [.int .i64 now, .slice a4 k4 c4] T.ref02_Clock true := by rw [← hA8]; exact set_f_eq
        have o8 : rowA A8 (.slice a4 k4 c4) (l.take p ++ ⟨id, tm⟩ :: l.drop p) := o4.keep fr8 fun c hc h => by have := hb4' c hc; omega
        have s8 : Still H A8 := (s12.still.then s27 fun _ _ h => h).still.then fr8 fun c hc h => by omega
        obtain ⟨H'', hx, r, s⟩ := any_tidied (P := fun G => rowA G (.slice a4 k4 c4) (l.take p ++ ⟨id, tm⟩ :: l.drop p)) (X := .tuple #[.agg #[.int .i64 now, .slice a4 k4 c4], .int .i64 0]) s8 o8 fun hg => row_ref o8 hg
        have v1 : A4.ver H.n = A2.ver H.n := s4.ver (by omega) (fun h => h)
        have v2 : A5.ver H.n = A2.ver H.n := s25.ver (by omega) (fun h => h)
        have v3 : A6.ver H.n = A5.ver H.n := by rw [s26.ver (by omega) (fun h => h), v2]
        have v4 : A7.ver H.n = A6.ver H.n := by rw [s27.ver (by omega) (fun h => h), s26.ver (by omega) (fun h => h)]
        refine ⟨a4, k4, c4, H'', (d_ref02_Clock_Set _ _ _ H (r := (.tuple #[.agg #[.int .i64 now, .slice a4 k4 c4], .int .i64 0], A8)) ?_).trans (congrArg some hx), r, s⟩
        simp (disch := first | with_reducible rfl | assumption | omega | rfl | (simp only [go_sem]; first | done | omega)) only [go_sem, ↓reduceIte, reduceCtorEq, Nat.reduceEqDiff, Nat.reduceAdd, Nat.reduceSub, Nat.reduceMul, Nat.reduceDiv, Nat.reduceMod, Nat.reduceLeDiff, Nat.reduceLT, Nat.reduceBEq, Int.reduceEq, Int.reduceBEq, Int.reduceBNe, Int.reduceLT, Int.reduceLE, Int.reduceAdd, Int.reduceSub, Int.reduceNeg, Int.reduceToNat, Int.reducePow, Nat.reducePow, Int.reduceMul, Int.reduceDiv, ↓s_ref02_Clock_Set, hA1, hA2, decide_eq_false hid, e_ref_Tick, ht, f21, enterK_eq hhas, hlen, decide_eq_false he]
        refine (hloop _).trans ?_
        have key : ∀ rd : Option Nat, (rd = none ∨ ∃ c, rd = some c ∧ c < H.n) → okV (some true) rd A2 A4 A6 A6 = true ∧ okV (some true) rd A5 A6 A6 A6 = true := by
          rintro rd (rfl | ⟨c, rfl, hc⟩)
          · exact ⟨okV_none (.inl (by omega)), okV_none (.inl (by omega))⟩
          · have u1 : A4.ver c = A2.ver c := s4.ver (by omega) (fun h => h)
            have u2 : A5.ver c = A2.ver c := s25.ver (by omega) (fun h => h)
            have u3 : A6.ver c = A2.ver c := s26.ver (by omega) (fun h => h)
            exact ⟨okV_some (.inr u1) (.inl (by omega)), okV_some (.inr (by rw [u3, u2])) (.inl (by omega))⟩
        simp (disch := first | with_reducible rfl | assumption | omega | rfl | (simp only [go_sem]; first | done | omega)) only [go_sem, ↓reduceIte, reduceCtorEq, Nat.reduceEqDiff, Nat.reduceAdd, Nat.reduceSub, Nat.reduceMul, Nat.reduceDiv, Nat.reduceMod, Nat.reduceLeDiff, Nat.reduceLT, Nat.reduceBEq, Int.reduceEq, Int.reduceBEq, Int.reduceBNe, Int.reduceLT, Int.reduceLE, Int.reduceAdd, Int.reduceSub, Int.reduceNeg, Int.reduceToNat, Int.reducePow, Nat.reducePow, Int.reduceMul, Int.reduceDiv, f21, hw0, happ1, hA5, happ2, f61, hw3, happ3, f7, hA8, f8]
        obtain ⟨k1, k2⟩ := key (blockOf (.slice a n k)) (by cases a with
          | none => exact .inl rfl
          | some ad => exact .inr ⟨_, rfl, ho.blk rfl⟩)
        unfold blockOf at k1 k2
        rw [k1, k2]
        rfl
  · rw [if_neg h]
    obtain ⟨H'', hx, r, s⟩ := old 2
    refine ⟨a, n, k, H'', (d_ref02_Clock_Set _ _ _ H (r := (.tuple #[.agg #[.int .i64 now, .slice a n k], .int .i64 2], A3)) ?_).trans (congrArg some hx), r, s⟩
    by_cases hid : id < 0
    · simp (disch := first | with_reducible rfl | assumption | omega | rfl | (simp only [go_sem]; first | done | omega)) only [go_sem, ↓reduceIte, reduceCtorEq, Nat.reduceEqDiff, Nat.reduceAdd, Nat.reduceSub, Nat.reduceMul, Nat.reduceDiv, Nat.reduceMod, Nat.reduceLeDiff, Nat.reduceLT, Nat.reduceBEq, Int.reduceEq, Int.reduceBEq, Int.reduceBNe, Int.reduceLT, Int.reduceLE, Int.reduceAdd, Int.reduceSub, Int.reduceNeg, Int.reduceToNat, Int.reducePow, Nat.reducePow, Int.reduceMul, Int.reduceDiv, ↓s_ref02_Clock_Set, hA1, hA2, decide_eq_true hid, f21, f2, hA3, f3]
    · have ht : isTick tm = false := by
        cases hb : isTick tm with
        | false => rfl
        | true => exact absurd ⟨by omega, hb⟩ h
      simp (disch := first | with_reducible rfl | assumption | omega | rfl | (simp only [go_sem]; first | done | omega)) only [go_sem, ↓reduceIte, reduceCtorEq, Nat.reduceEqDiff, Nat.reduceAdd, Nat.reduceSub, Nat.reduceMul, Nat.reduceDiv, Nat.reduceMod, Nat.reduceLeDiff, Nat.reduceLT, Nat.reduceBEq, Int.reduceEq, Int.reduceBEq, Int.reduceBNe, Int.reduceLT, Int.reduceLE, Int.reduceAdd, Int.reduceSub, Int.reduceNeg, Int.reduceToNat, Int.reducePow, Nat.reducePow, Int.reduceMul, Int.reduceDiv, ↓s_ref02_Clock_Set, hA1, hA2, decide_eq_false hid, e_ref_Tick, ht, f21, f2, hA3, f3]

end Go.Proofs.Ytldgonjihhndgaa

/-
  Chapter 02: the reference's Clear and Pass.
  Conditions: none. By an AI agent.
-/
set_option maxRecDepth 10000
set_option linter.unusedSimpArgs false
set_option linter.unusedVariables false
namespace Go.Proofs.Ytldgonjihhndgaa
open Go Eng

def clearE (l : List Al) (id : Int) : Int × List Al := if hasA l id = true then (0, l.filter fun x => decide (x.id ≠ id)) else (9, l)

theorem l_RClear (l : List Al) (now id : Int) (a : Option Addr) (n k b2 b6 : Nat) (t4 : Value) (Hz : AHeap) (hr0 : Rd EAl Hz (.slice a n k) l) (f2 : Hz.f b2 = .cells [.int .i64 now, .slice a n k] T.ref02_Clock true) (hb2 : b2 < Hz.n) (h26 : b2 ≠ b6) (hb6 : b6 < Hz.n) (hvb : ∀ c, blockOf (.slice a n k) = some c → c ≠ b6) (hl : l.length ≤ 5000) :
    ∀ (x : List Al) (i : Nat) (H : AHeap) (a' : Option Addr) (n' k' : Nat) (acc : List Al), l.drop i = x → i ≤ l.length → acc.length ≤ i → Fr (fun c => c = b6) Hz H → H.f b6 = .cells [.int .i64 now, .slice a' n' k'] T.ref02_Clock true → rowA H (.slice a' n' k') acc → (∀ c, blockOf (.slice a' n' k') = some c → Hz.n ≤ c) →
      ∃ a'' n'' k'' H', Fr (fun c => c = b6) Hz H' ∧ H'.f b6 = .cells [.int .i64 now, .slice a'' n'' k''] T.ref02_Clock true ∧ rowA H' (.slice a'' n'' k'') (acc ++ x.filter fun x => decide (x.id ≠ id)) ∧ (∀ c, blockOf (.slice a'' n'' k'') = some c → Hz.n ≤ c) ∧
        ∀ K : K, l_ref02_Clock_Clear_0 (.int .i64 id) (.pointer (some ⟨b2, 0, none⟩)) t4 (.pointer (some ⟨b6, 0, none⟩)) (.int .i64 (i : Int)) H (blkK [4, 6] 0 K) = K .normal [(4, t4), (6, .pointer (some ⟨b6, 0, none⟩))] H'
  | [], i, H, a', n', k', acc, hx, hi, hacc, fr, f6, o, hb => by
    have h : l.length ≤ i := List.drop_eq_nil_iff.1 hx
    have hlt : ¬ (i : Int) < (l.length : Int) := by omega
    have hlen := hr0.lenS
    have f2' : H.f b2 = .cells [.int .i64 now, .slice a n k] T.ref02_Clock true := by rw [fr.f hb2 h26, f2]
    refine ⟨a', n', k', H, fr, f6, by simpa using o, hb, fun K => ?_⟩
    rw [r_ref02_Clock_Clear_0]
    simp (disch := first | with_reducible rfl | assumption | omega | rfl | (simp only [go_sem]; first | done | omega)) only [go_sem, ↓reduceIte, reduceCtorEq, Nat.reduceEqDiff, Nat.reduceAdd, Nat.reduceSub, Nat.reduceMul, Nat.reduceDiv, Nat.reduceMod, Nat.reduceLeDiff, Nat.reduceLT, Nat.reduceBEq, Int.reduceEq, Int.reduceBEq, Int.reduceBNe, Int.reduceLT, Int.reduceLE, Int.reduceAdd, Int.reduceSub, Int.reduceNeg, Int.reduceToNat, Int.reducePow, Nat.reducePow, Int.reduceMul, Int.reduceDiv, ↓s_ref02_Clock_Clear_b0, f2', hlen, hlt]
  | y :: x, i, H, a', n', k', acc, hx, hi, hacc, fr, f6, o, hb => by
    obtain ⟨h, hxa, hx'⟩ := drop_cons hx
    have hlt : (i : Int) < (l.length : Int) := by omega
    have hlen := hr0.lenS
    have f2' : H.f b2 = .cells [.int .i64 now, .slice a n k] T.ref02_Clock true := by rw [fr.f hb2 h26, f2]
    have hrH : Rd EAl H (.slice a n k) l := hr0.keep fr fun c hc h => hvb c hc h
    obtain ⟨b1, o1, hix, hb1, hc1, _⟩ := hrH.ix (q := .i64) h
    rw [hxa] at hc1
    have hix : ixS 2 (.slice a n k) (.int .i64 i) = some (.pointer (some ⟨b1, o1, none⟩)) := hix
    have hck : cellB (H.f b1) o1 = some (.int .i64 y.id) := cutB_cell hc1 (i := 0) (by decide)
    have hc1 : cutB (H.f b1) o1 2 = some [.int .i64 y.id, .int .i64 y.tm] := hc1
    have nz : Hz.n ≤ H.n := fr.n
    by_cases he : y.id = id
    · obtain ⟨a'', n'', k'', H', r1, r2, r3, r4, ih⟩ := l_RClear l now id a n k b2 b6 t4 Hz hr0 f2 hb2 h26 hb6 hvb hl x (i + 1) H a' n' k' acc hx' h (by omega) fr f6 o hb
      refine ⟨a'', n'', k'', H', r1, r2, by rw [List.filter_cons_of_neg (by simp [he])]; exact r3, r4, fun K => ?_⟩
      have ih := ih K
      rw [Int.natCast_add] at ih
      rw [r_ref02_Clock_Clear_0]
      simp (disch := first | with_reducible rfl | assumption | omega | rfl | (simp only [go_sem]; first | done | omega)) only [go_sem, ↓reduceIte, reduceCtorEq, Nat.reduceEqDiff, Nat.reduceAdd, Nat.reduceSub, Nat.reduceMul, Nat.reduceDiv, Nat.reduceMod, Nat.reduceLeDiff, Nat.reduceLT, Nat.reduceBEq, Int.reduceEq, Int.reduceBEq, Int.reduceBNe, Int.reduceLT, Int.reduceLE, Int.reduceAdd, Int.reduceSub, Int.reduceNeg, Int.reduceToNat, Int.reducePow, Nat.reducePow, Int.reduceMul, Int.reduceDiv, ↓s_ref02_Clock_Clear_b0, f2', hlen, hlt, hix, hck, decide_eq_true he]
      exact ih
    · generalize hH1 : H.push (.cells [.int .i64 y.id, .int .i64 y.tm] T.api_Alarm true) = H1
      have s1 : Still H H1 := by rw [← hH1]; exact (Fr.refl H).push _
      have n1 : H1.n = H.n + 1 := by rw [← hH1]; rfl
      have hlit := litA y H
      rw [hH1] at hlit
      obtain ⟨w, H2, happ, o2, fr2, hb2', _⟩ := Own.appE (Own.still o s1) (m := [y]) (sz := 2) (bytes := 16) rfl (by simp; omega) (by simp; omega) (hlit.src (sz := 2) rfl)
      obtain ⟨aw, nw, kw, rfl⟩ := Own.shape o2
      have off : ¬ OnlyOf (.slice a' n' k') b6 := fun hc => by have := hb b6 hc; omega
      have n2 : H1.n ≤ H2.n := fr2.n
      have f62 : H2.f b6 = .cells [.int .i64 now, .slice a' n' k'] T.ref02_Clock true := by rw [fr2.f (by omega) off, s1.f (by omega) (fun h => h), f6]
      generalize hH3 : H2.set b6 (.cells [.int .i64 now, .slice aw nw kw] T.ref02_Clock true) = H3
      have fr3 : Fr (fun c => c = b6) H2 H3 := by rw [← hH3]; exact Fr.set (Fr.refl H2) _ _ fun _ => rfl
      have f63 : H3.f b6 = .cells [.int .i64 now, .slice aw nw kw] T.ref02_Clock true := by rw [← hH3]; exact set_f_eq
      have hbw : ∀ c, blockOf (.slice aw nw kw) = some c → Hz.n ≤ c := fun c hc => by
        rcases hb2' with e | e
        · rw [e] at hc; exact hb c hc
        · rw [e] at hc; cases hc; omega
      have o3 : rowA H3 (.slice aw nw kw) (acc ++ [y]) := o2.keep fr3 fun c hc h => by have := hbw c hc; omega
      have fr' : Fr (fun c => c = b6) Hz H3 := by
        have e1 : Fr (fun c => c = b6) Hz H1 := fr.then s1 fun _ _ h => h.elim
        have e2 : Fr (fun c => c = b6) Hz H2 := e1.then fr2 fun c hc h => by have := hb c h; omega
        exact e2.then fr3 fun _ _ h => h
      obtain ⟨a'', n'', k'', H', r1, r2, r3, r4, ih⟩ := l_RClear l now id a n k b2 b6 t4 Hz hr0 f2 hb2 h26 hb6 hvb hl x (i + 1) H3 aw nw kw (acc ++ [y]) hx' h (by simp; omega) fr' f63 o3 hbw
      refine ⟨a'', n'', k'', H', r1, r2, by rw [List.filter_cons_of_pos (by simp [he])]; simpa using r3, r4, fun K => ?_⟩
      have ih := ih K
      rw [Int.natCast_add] at ih
      rw [r_ref02_Clock_Clear_0]
      simp (disch := first | with_reducible rfl | assumption | omega | rfl | (simp only [go_sem]; first | done | omega)) only [go_sem, ↓reduceIte, reduceCtorEq, Nat.reduceEqDiff, Nat.reduceAdd, Nat.reduceSub, Nat.reduceMul, Nat.reduceDiv, Nat.reduceMod, Nat.reduceLeDiff, Nat.reduceLT, Nat.reduceBEq, Int.reduceEq, Int.reduceBEq, Int.reduceBNe, Int.reduceLT, Int.reduceLE, Int.reduceAdd, Int.reduceSub, Int.reduceNeg, Int.reduceToNat, Int.reducePow, Nat.reducePow, Int.reduceMul, Int.reduceDiv, ↓s_ref02_Clock_Clear_b0, f2', f6, hlen, hlt, hix, hck, hc1, decide_eq_false he, hH1, happ, f62, hH3]
      exact ih

theorem q_RClear (l : List Al) (now id : Int) (a : Option Addr) (n k : Nat) (H : AHeap) (ho : rowA H (.slice a n k) l) (hl : l.length ≤ 4096) :
    ∃ a' n' k' H', CC F.ref02_Clock_Clear [.agg #[.int .i64 now, .slice a n k], .int .i64 id] H = some (.tuple #[.agg #[.int .i64 now, .slice a' n' k'], .int .i64 (clearE l id).1], H') ∧ rowA H' (.slice a' n' k') (clearE l id).2 ∧ Still H H' := by
  generalize hA1 : H.push (.cells [.int .i64 now, .slice a n k] T.ref02_Clock true) = A1
  have s1 : Still H A1 := by rw [← hA1]; exact (Fr.refl H).push _
  have n1 : A1.n = H.n + 1 := by rw [← hA1]; rfl
  have f1 : A1.f H.n = .cells [.int .i64 now, .slice a n k] T.ref02_Clock true := by rw [← hA1]; exact push_f_eq rfl
  generalize hA2 : A1.push (.cells [.int .i64 0, .slice none 0 0] T.ref02_Clock true) = A2
  have s2 : Still A1 A2 := by rw [← hA2]; exact (Fr.refl A1).push _
  have n2 : A2.n = A1.n + 1 := by rw [← hA2]; rfl
  have f2 : A2.f A1.n = .cells [.int .i64 0, .slice none 0 0] T.ref02_Clock true := by rw [← hA2]; exact push_f_eq rfl
  have f21 : A2.f H.n = .cells [.int .i64 now, .slice a n k] T.ref02_Clock true := by rw [s2.f (by omega) (fun h => h), f1]
  have s12 : Still H A2 := s1.still.then s2 fun _ _ h => h
  have ho2 : rowA A2 (.slice a n k) l := Own.still ho s12
  have hhas := q_has l now id a n k A2 ho2.rd (by omega)
  unfold clearE
  cases hh : hasA l id with
  | false =>
    rw [hh] at hhas
    rw [if_neg (by simp)]
    generalize hA3 : A2.set A1.n (.cells [.int .i64 now, .slice a n k] T.ref02_Clock true) = A3
    have s3 : Still H A3 := by rw [← hA3]; exact Fr.set s12 _ _ fun h => by omega
    have f3 : A3.f A1.n = .cells [.int .i64 now, .slice a n k] T.ref02_Clock true := by rw [← hA3]; exact set_f_eq
    obtain ⟨H'', hx, r, s⟩ := any_tidied (P := fun G => rowA G (.slice a n k) l) (X := .tuple #[.agg #[.int .i64 now, .slice a n k], .int .i64 9]) s3 (Own.still ho s3) fun _ => ho
    refine ⟨a, n, k, H'', (d_ref02_Clock_Clear _ _ H (r := (.tuple #[.agg #[.int .i64 now, .slice a n k], .int .i64 9], A3)) ?_).trans (congrArg some hx), r, s⟩
    simp (disch := first | with_reducible rfl | assumption | omega | rfl | (simp only [go_sem]; first | done | omega)) only [go_sem, ↓reduceIte, reduceCtorEq, Nat.reduceEqDiff, Nat.reduceAdd, Nat.reduceSub, Nat.reduceMul, Nat.reduceDiv, Nat.reduceMod, Nat.reduceLeDiff, Nat.reduceLT, Nat.reduceBEq, Int.reduceEq, Int.reduceBEq, Int.reduceBNe, Int.reduceLT, Int.reduceLE, Int.reduceAdd, Int.reduceSub, Int.reduceNeg, Int.reduceToNat, Int.reducePow, Nat.reducePow, Int.reduceMul, Int.reduceDiv, ↓s_ref02_Clock_Clear, hA1, hA2, f21, enterK_eq hhas, f2, hA3, f3]
  | true =>
    rw [hh] at hhas
    rw [if_pos rfl]
    generalize hA3 : (A2.push (.cells [.int .i64 0, .slice none 0 0] T.ref02_Clock true)).set A2.n (.cells [.int .i64 now, .slice none 0 0] T.ref02_Clock true) = A3
    have s3 : Still A2 A3 := by rw [← hA3]; exact Fr.set ((Fr.refl A2).push _) _ _ (fun h => by omega)
    have n3 : A3.n = A2.n + 1 := by rw [← hA3]; rfl
    have f3 : A3.f A2.n = .cells [.int .i64 now, .slice none 0 0] T.ref02_Clock true := by rw [← hA3]; exact set_f_eq
    have f31 : A3.f H.n = .cells [.int .i64 now, .slice a n k] T.ref02_Clock true := by rw [s3.f (by omega) (fun h => h), f21]
    have f32 : A3.f A1.n = .cells [.int .i64 0, .slice none 0 0] T.ref02_Clock true := by rw [s3.f (by omega) (fun h => h), f2]
    have s13 : Still H A3 := s12.still.then s3 fun _ _ h => h
    obtain ⟨a', n', k', A4, fr4, f4, o4, hb4, hloop⟩ := l_RClear l now id a n k H.n A2.n (.pointer (some ⟨A1.n, 0, none⟩)) A3 (Own.still ho2 s3).rd f31 (by omega) (by omega) (by omega) (fun c hc h => by have := ho.blk hc; omega) (by omega) l 0 A3 none 0 0 [] rfl (by omega) (by simp) (Fr.refl A3) f3 (.inl ⟨rfl, rfl⟩) (fun c hc => by cases hc)
    rw [List.nil_append] at o4
    have f41 : A4.f A1.n = .cells [.int .i64 0, .slice none 0 0] T.ref02_Clock true := by rw [fr4.f (by omega) (by omega), f32]
    generalize hA5 : A4.set A1.n (.cells [.int .i64 now, .slice a' n' k'] T.ref02_Clock true) = A5
    have fr5 : Fr (fun c => c = A1.n) A4 A5 := by rw [← hA5]; exact Fr.set (Fr.refl A4) _ _ fun _ => rfl
    have f5 : A5.f A1.n = .cells [.int .i64 now, .slice a' n' k'] T.ref02_Clock true := by rw [← hA5]; exact set_f_eq
    have o5 : rowA A5 (.slice a' n' k') (l.filter fun x => decide (x.id ≠ id)) := o4.keep fr5 fun c hc h => by have := hb4 c hc; omega
    have s5 : Still H A5 := (s13.still.then fr4 fun c hc h => by omega).still.then fr5 fun c hc h => by omega
    obtain ⟨H'', hx, r, s⟩ := any_tidied (P := fun G => rowA G (.slice a' n' k') (l.filter fun x => decide (x.id ≠ id))) (X := .tuple #[.agg #[.int .i64 now, .slice a' n' k'], .int .i64 0]) s5 o5 fun hg => row_ref o5 hg
    refine ⟨a', n', k', H'', (d_ref02_Clock_Clear _ _ H (r := (.tuple #[.agg #[.int .i64 now, .slice a' n' k'], .int .i64 0], A5)) ?_).trans (congrArg some hx), r, s⟩
    simp (disch := first | with_reducible rfl | assumption | omega | rfl | (simp only [go_sem]; first | done | omega)) only [go_sem, ↓reduceIte, reduceCtorEq, Nat.reduceEqDiff, Nat.reduceAdd, Nat.reduceSub, Nat.reduceMul, Nat.reduceDiv, Nat.reduceMod, Nat.reduceLeDiff, Nat.reduceLT, Nat.reduceBEq, Int.reduceEq, Int.reduceBEq, Int.reduceBNe, Int.reduceLT, Int.reduceLE, Int.reduceAdd, Int.reduceSub, Int.reduceNeg, Int.reduceToNat, Int.reducePow, Nat.reducePow, Int.reduceMul, Int.reduceDiv, ↓s_ref02_Clock_Clear, hA1, hA2, f21, enterK_eq hhas, hA3]
    refine (hloop _).trans ?_
    simp (disch := first | with_reducible rfl | assumption | omega | rfl | (simp only [go_sem]; first | done | omega)) only [go_sem, ↓reduceIte, reduceCtorEq, Nat.reduceEqDiff, Nat.reduceAdd, Nat.reduceSub, Nat.reduceMul, Nat.reduceDiv, Nat.reduceMod, Nat.reduceLeDiff, Nat.reduceLT, Nat.reduceBEq, Int.reduceEq, Int.reduceBEq, Int.reduceBNe, Int.reduceLT, Int.reduceLE, Int.reduceAdd, Int.reduceSub, Int.reduceNeg, Int.reduceToNat, Int.reducePow, Nat.reducePow, Int.reduceMul, Int.reduceDiv, f4, f41, hA5, f5]

/-! ### Pass -/
def dueB (nw : Int) (y : Al) : Bool := decide (y.tm ≤ nw) && decide (y.tm < 4611686018427387904)

theorem l_RPass (l : List Al) (now nw : Int) (a : Option Addr) (n k b2 b7 : Nat) (t4 : Value) (Hz : AHeap) (hr0 : Rd EAl Hz (.slice a n k) l) (f2 : Hz.f b2 = .cells [.int .i64 now, .slice a n k] T.ref02_Clock true) (hb2 : b2 < Hz.n) (h27 : b2 ≠ b7) (hb7 : b7 < Hz.n) (hvb : ∀ c, blockOf (.slice a n k) = some c → c ≠ b7) (hl : l.length ≤ 5000) :
    ∀ (x : List Al) (i : Nat) (H : AHeap) (a' : Option Addr) (n' k' : Nat) (d : Value) (acc dacc : List Al), l.drop i = x → i ≤ l.length → acc.length ≤ i → dacc.length ≤ i → Fr (fun c => c = b7) Hz H → H.f b7 = .cells [.int .i64 nw, .slice a' n' k'] T.ref02_Clock true →
      rowA H (.slice a' n' k') acc → (∀ c, blockOf (.slice a' n' k') = some c → Hz.n ≤ c) → rowA H d dacc → (∀ c, blockOf d = some c → Hz.n ≤ c ∧ blockOf (.slice a' n' k') ≠ some c) →
      ∃ a'' n'' k'' d' H', Fr (fun c => c = b7) Hz H' ∧ H'.f b7 = .cells [.int .i64 nw, .slice a'' n'' k''] T.ref02_Clock true ∧ rowA H' (.slice a'' n'' k'') (acc ++ x.filter fun y => !dueB nw y) ∧ (∀ c, blockOf (.slice a'' n'' k'') = some c → Hz.n ≤ c) ∧ rowA H' d' (dacc ++ x.filter (dueB nw)) ∧ (∀ c, blockOf d' = some c → Hz.n ≤ c) ∧
        ∀ K : K, l_ref02_Clock_Pass_0 (.pointer (some ⟨b2, 0, none⟩)) t4 (.pointer (some ⟨b7, 0, none⟩)) d (.int .i64 (i : Int)) H (blkK [4, 7, 8] 0 K) = K .normal [(4, t4), (7, .pointer (some ⟨b7, 0, none⟩)), (8, d')] H'
  | [], i, H, a', n', k', d, acc, dacc, hx, hi, hacc, hdacc, fr, f7, o, hb, od, hbd => by
    have h : l.length ≤ i := List.drop_eq_nil_iff.1 hx
    have hlt : ¬ (i : Int) < (l.length : Int) := by omega
    have hlen := hr0.lenS
    have f2' : H.f b2 = .cells [.int .i64 now, .slice a n k] T.ref02_Clock true := by rw [fr.f hb2 h27, f2]
    refine ⟨a', n', k', d, H, fr, f7, by simpa using o, hb, by simpa using od, fun c hc => (hbd c hc).1, fun K => ?_⟩
    rw [r_ref02_Clock_Pass_0]
    simp (disch := first | with_reducible rfl | assumption | omega | rfl | (simp only [go_sem]; first | done | omega)) only [go_sem, ↓reduceIte, reduceCtorEq, Nat.reduceEqDiff, Nat.reduceAdd, Nat.reduceSub, Nat.reduceMul, Nat.reduceDiv, Nat.reduceMod, Nat.reduceLeDiff, Nat.reduceLT, Nat.reduceBEq, Int.reduceEq, Int.reduceBEq, Int.reduceBNe, Int.reduceLT, Int.reduceLE, Int.reduceAdd, Int.reduceSub, Int.reduceNeg, Int.reduceToNat, Int.reducePow, Nat.reducePow, Int.reduceMul, Int.reduceDiv, ↓s_ref02_Clock_Pass_b0, f2', hlen, hlt]
  | y :: x, i, H, a', n', k', d, acc, dacc, hx, hi, hacc, hdacc, fr, f7, o, hb, od, hbd => by
    obtain ⟨h, hxa, hx'⟩ := drop_cons hx
    have hlt : (i : Int) < (l.length : Int) := by omega
    have hlen := hr0.lenS
    have f2' : H.f b2 = .cells [.int .i64 now, .slice a n k] T.ref02_Clock true := by rw [fr.f hb2 h27, f2]
    have hrH : Rd EAl H (.slice a n k) l := hr0.keep fr fun c hc h => hvb c hc h
    obtain ⟨b1, o1, hix, hb1, hc1, _⟩ := hrH.ix (q := .i64) h
    rw [hxa] at hc1
    have hix : ixS 2 (.slice a n k) (.int .i64 i) = some (.pointer (some ⟨b1, o1, none⟩)) := hix
    have hck : cellB (H.f b1) (o1 + 1) = some (.int .i64 y.tm) := cutB_cell hc1 (i := 1) (by decide)
    have hc1 : cutB (H.f b1) o1 2 = some [.int .i64 y.id, .int .i64 y.tm] := hc1
    have nz : Hz.n ≤ H.n := fr.n
    generalize hH1 : H.push (.cells [.int .i64 y.id, .int .i64 y.tm] T.api_Alarm true) = H1
    have s1 : Still H H1 := by rw [← hH1]; exact (Fr.refl H).push _
    have n1 : H1.n = H.n + 1 := by rw [← hH1]; rfl
    have hlit := litA y H
    rw [hH1] at hlit
    have frz1 : Fr (fun c => c = b7) Hz H1 := fr.then s1 fun _ _ h => h.elim
    cases hdue : dueB nw y with
    | true =>
      obtain ⟨q1, q2⟩ : y.tm ≤ nw ∧ y.tm < 4611686018427387904 := by simpa [dueB] using hdue
      obtain ⟨d', H2, happ, od2, fr2, hbd', _⟩ := Own.appE (Own.still od s1) (m := [y]) (sz := 2) (bytes := 16) rfl (by simp; omega) (by simp; omega) (hlit.src (sz := 2) rfl)
      have n2 : H1.n ≤ H2.n := fr2.n
      have off : ¬ OnlyOf d b7 := fun hc => by have := (hbd b7 hc).1; omega
      have f72 : H2.f b7 = .cells [.int .i64 nw, .slice a' n' k'] T.ref02_Clock true := by rw [fr2.f (by omega) off, s1.f (by omega) (fun h => h), f7]
      have o2 : rowA H2 (.slice a' n' k') acc := (Own.still o s1).keep fr2 fun c hc h => (hbd c h).2 hc
      have frz2 : Fr (fun c => c = b7) Hz H2 := frz1.then fr2 fun c hc h => by have := (hbd c h).1; omega
      have hbd2 : ∀ c, blockOf d' = some c → Hz.n ≤ c ∧ blockOf (.slice a' n' k') ≠ some c := fun c hc => by
        rcases hbd' with e | e
        · rw [e] at hc; exact hbd c hc
        · rw [e] at hc; cases hc; exact ⟨by omega, fun hc => by have := (Own.still o s1).blk hc; omega⟩
      obtain ⟨a'', n'', k'', d'', H', r1, r2, r3, r4, r5, r6, ih⟩ := l_RPass l now nw a n k b2 b7 t4 Hz hr0 f2 hb2 h27 hb7 hvb hl x (i + 1) H2 a' n' k' d' acc (dacc ++ [y]) hx' h (by omega) (by simp; omega) frz2 f72 o2 hb od2 hbd2
      refine ⟨a'', n'', k'', d'', H', r1, r2, by rw [List.filter_cons_of_neg (by simp [hdue])]; exact r3, r4, by rw [List.filter_cons_of_pos hdue]; simpa using r5, r6, fun K => ?_⟩
      have ih := ih K
      rw [Int.natCast_add] at ih
      rw [r_ref02_Clock_Pass_0]
      simp (disch := first | with_reducible rfl | assumption | omega | rfl | (simp only [go_sem]; first | done | omega)) only [go_sem, ↓reduceIte, reduceCtorEq, Nat.reduceEqDiff, Nat.reduceAdd, Nat.reduceSub, Nat.reduceMul, Nat.reduceDiv, Nat.reduceMod, Nat.reduceLeDiff, Nat.reduceLT, Nat.reduceBEq, Int.reduceEq, Int.reduceBEq, Int.reduceBNe, Int.reduceLT, Int.reduceLE, Int.reduceAdd, Int.reduceSub, Int.reduceNeg, Int.reduceToNat, Int.reducePow, Nat.reducePow, Int.reduceMul, Int.reduceDiv, ↓s_ref02_Clock_Pass_b0, f2', f7, hlen, hlt, hix, hck, hc1, decide_eq_true q1, decide_eq_true q2, hH1, happ]
      exact ih
    | false =>
      obtain ⟨w, H2, happ, o2, fr2, hb2', _⟩ := Own.appE (Own.still o s1) (m := [y]) (sz := 2) (bytes := 16) rfl (by simp; omega) (by simp; omega) (hlit.src (sz := 2) rfl)
      obtain ⟨aw, nw', kw, rfl⟩ := Own.shape o2
      have off : ¬ OnlyOf (.slice a' n' k') b7 := fun hc => by have := hb b7 hc; omega
      have n2 : H1.n ≤ H2.n := fr2.n
      have f72 : H2.f b7 = .cells [.int .i64 nw, .slice a' n' k'] T.ref02_Clock true := by rw [fr2.f (by omega) off, s1.f (by omega) (fun h => h), f7]
      generalize hH3 : H2.set b7 (.cells [.int .i64 nw, .slice aw nw' kw] T.ref02_Clock true) = H3
      have fr3 : Fr (fun c => c = b7) H2 H3 := by rw [← hH3]; exact Fr.set (Fr.refl H2) _ _ fun _ => rfl
      have f73 : H3.f b7 = .cells [.int .i64 nw, .slice aw nw' kw] T.ref02_Clock true := by rw [← hH3]; exact set_f_eq
      have hbw : ∀ c, blockOf (.slice aw nw' kw) = some c → Hz.n ≤ c := fun c hc => by
        rcases hb2' with e | e
        · rw [e] at hc; exact hb c hc
        · rw [e] at hc; cases hc; omega
      have o3 : rowA H3 (.slice aw nw' kw) (acc ++ [y]) := o2.keep fr3 fun c hc h => by have := hbw c hc; omega
      have od1 := Own.still od s1
      have od2 : rowA H2 d dacc := od1.keep fr2 fun c hc h => (hbd c hc).2 h
      have od3 : rowA H3 d dacc := od2.keep fr3 fun c hc h => by have := (hbd c hc).1; omega
      have hbd3 : ∀ c, blockOf d = some c → Hz.n ≤ c ∧ blockOf (.slice aw nw' kw) ≠ some c := fun c hc => by
        refine ⟨(hbd c hc).1, fun e' => ?_⟩
        rcases hb2' with e | e
        · rw [e] at e'; exact (hbd c hc).2 e'
        · rw [e] at e'; cases e'; have := od1.blk hc; omega
      have fr' : Fr (fun c => c = b7) Hz H3 := by
        have e2 : Fr (fun c => c = b7) Hz H2 := frz1.then fr2 fun c hc h => by have := hb c h; omega
        exact e2.then fr3 fun _ _ h => h
      obtain ⟨a'', n'', k'', d'', H', r1, r2, r3, r4, r5, r6, ih⟩ := l_RPass l now nw a n k b2 b7 t4 Hz hr0 f2 hb2 h27 hb7 hvb hl x (i + 1) H3 aw nw' kw d (acc ++ [y]) dacc hx' h (by simp; omega) (by omega) fr' f73 o3 hbw od3 hbd3
      refine ⟨a'', n'', k'', d'', H', r1, r2, by rw [List.filter_cons_of_pos (by simp [hdue])]; simpa using r3, r4, by rw [List.filter_cons_of_neg (by simp [hdue])]; exact r5, r6, fun K => ?_⟩
      have ih := ih K
      rw [Int.natCast_add] at ih
      rw [r_ref02_Clock_Pass_0]
      by_cases q1 : y.tm ≤ nw
      · have q2 : ¬ y.tm < 4611686018427387904 := fun h => by simp [dueB, q1, h] at hdue
        simp (disch := first | with_reducible rfl | assumption | omega | rfl | (simp only [go_sem]; first | done | omega)) only [go_sem, ↓reduceIte, reduceCtorEq, Nat.reduceEqDiff, Nat.reduceAdd, Nat.reduceSub, Nat.reduceMul, Nat.reduceDiv, Nat.reduceMod, Nat.reduceLeDiff, Nat.reduceLT, Nat.reduceBEq, Int.reduceEq, Int.reduceBEq, Int.reduceBNe, Int.reduceLT, Int.reduceLE, Int.reduceAdd, Int.reduceSub, Int.reduceNeg, Int.reduceToNat, Int.reducePow, Nat.reducePow, Int.reduceMul, Int.reduceDiv, ↓s_ref02_Clock_Pass_b0, f2', f7, hlen, hlt, hix, hck, hc1, decide_eq_true q1, decide_eq_false q2, hH1, happ, f72, hH3]
        exact ih
      · simp (disch := first | with_reducible rfl | assumption | omega | rfl | (simp only [go_sem]; first | done | omega)) only [go_sem, ↓reduceIte, reduceCtorEq, Nat.reduceEqDiff, Nat.reduceAdd, Nat.reduceSub, Nat.reduceMul, Nat.reduceDiv, Nat.reduceMod, Nat.reduceLeDiff, Nat.reduceLT, Nat.reduceBEq, Int.reduceEq, Int.reduceBEq, Int.reduceBNe, Int.reduceLT, Int.reduceLE, Int.reduceAdd, Int.reduceSub, Int.reduceNeg, Int.reduceToNat, Int.reducePow, Nat.reducePow, Int.reduceMul, Int.reduceDiv, ↓s_ref02_Clock_Pass_b0, f2', f7, hlen, hlt, hix, hck, hc1, decide_eq_false q1, hH1, happ, f72, hH3]
        exact ih

end Go.Proofs.Ytldgonjihhndgaa

/-
  Chapter 02: the reference's Pass; looks, acts.
  Conditions: none. By an AI agent.
-/
set_option maxRecDepth 10000
set_option linter.unusedSimpArgs false
set_option linter.unusedVariables false
namespace Go.Proofs.Ytldgonjihhndgaa
open Go Eng

theorem row_ref3 {x e : Int} {H H' : AHeap} {v d : Value} {l m : List Al} (r : rowA H' v l ∧ rowA H' d m) (h : gr 9 (.tuple #[.agg #[.int .i64 x, v], d, .int .i64 e]) = true) : rowA H v l ∧ rowA H d m := by
  obtain ⟨r1, r2⟩ := r
  constructor
  · rcases r1 with h' | ⟨_, a, rfl, _⟩ | ⟨b, o, c, xs, rfl, _⟩
    · exact .inl h'
    · exact absurd h (by simp [gr])
    · exact absurd h (by simp [gr])
  · rcases r2 with h' | ⟨_, a, rfl, _⟩ | ⟨b, o, c, xs, rfl, _⟩
    · exact .inl h'
    · exact absurd h (by simp [gr])
    · exact absurd h (by simp [gr])

theorem q_RPass_bad (l : List Al) (now t : Int) (a : Option Addr) (n k : Nat) (H : AHeap) (ho : rowA H (.slice a n k) l) (ht : ¬ 0 ≤ t) :
    ∃ H', CC F.ref02_Clock_Pass [.agg #[.int .i64 now, .slice a n k], .int .i64 t] H = some (.tuple #[.agg #[.int .i64 now, .slice a n k], .slice none 0 0, .int .i64 2], H') ∧ rowA H' (.slice a n k) l ∧ Still H H' := by
  generalize hA1 : H.push (.cells [.int .i64 now, .slice a n k] T.ref02_Clock true) = A1
  have s1 : Still H A1 := by rw [← hA1]; exact (Fr.refl H).push _
  have n1 : A1.n = H.n + 1 := by rw [← hA1]; rfl
  have f1 : A1.f H.n = .cells [.int .i64 now, .slice a n k] T.ref02_Clock true := by rw [← hA1]; exact push_f_eq rfl
  generalize hA2 : A1.push (.cells [.int .i64 0, .slice none 0 0] T.ref02_Clock true) = A2
  have s2 : Still A1 A2 := by rw [← hA2]; exact (Fr.refl A1).push _
  have n2 : A2.n = A1.n + 1 := by rw [← hA2]; rfl
  have f2 : A2.f A1.n = .cells [.int .i64 0, .slice none 0 0] T.ref02_Clock true := by rw [← hA2]; exact push_f_eq rfl
  have f21 : A2.f H.n = .cells [.int .i64 now, .slice a n k] T.ref02_Clock true := by rw [s2.f (by omega) (fun h => h), f1]
  have s12 : Still H A2 := s1.still.then s2 fun _ _ h => h
  generalize hA3 : A2.set A1.n (.cells [.int .i64 now, .slice a n k] T.ref02_Clock true) = A3
  have s3 : Still H A3 := by rw [← hA3]; exact Fr.set s12 _ _ fun h => by omega
  have f3 : A3.f A1.n = .cells [.int .i64 now, .slice a n k] T.ref02_Clock true := by rw [← hA3]; exact set_f_eq
  obtain ⟨H'', hx, r, s⟩ := any_tidied (P := fun G => rowA G (.slice a n k) l) (X := .tuple #[.agg #[.int .i64 now, .slice a n k], .slice none 0 0, .int .i64 2]) s3 (Own.still ho s3) fun _ => ho
  have hneg : t < 0 := by omega
  refine ⟨H'', (d_ref02_Clock_Pass _ _ H (r := (.tuple #[.agg #[.int .i64 now, .slice a n k], .slice none 0 0, .int .i64 2], A3)) ?_).trans (congrArg some hx), r, s⟩
  simp (disch := first | with_reducible rfl | assumption | omega | rfl | (simp only [go_sem]; first | done | omega)) only [go_sem, ↓reduceIte, reduceCtorEq, Nat.reduceEqDiff, Nat.reduceAdd, Nat.reduceSub, Nat.reduceMul, Nat.reduceDiv, Nat.reduceMod, Nat.reduceLeDiff, Nat.reduceLT, Nat.reduceBEq, Int.reduceEq, Int.reduceBEq, Int.reduceBNe, Int.reduceLT, Int.reduceLE, Int.reduceAdd, Int.reduceSub, Int.reduceNeg, Int.reduceToNat, Int.reducePow, Nat.reducePow, Int.reduceMul, Int.reduceDiv, ↓s_ref02_Clock_Pass, hA1, hA2, decide_eq_true hneg, f21, f2, hA3, f3]

theorem q_RPass (l : List Al) (now t : Int) (a : Option Addr) (n k : Nat) (H : AHeap) (ho : rowA H (.slice a n k) l) (hl : l.length ≤ 4096) (hnow : isTick now = true) (ht : 0 ≤ t) :
    ∃ a' n' k' d' H', CC F.ref02_Clock_Pass [.agg #[.int .i64 now, .slice a n k], .int .i64 t] H = some (.tuple #[.agg #[.int .i64 (due now t), .slice a' n' k'], d', .int .i64 0], H') ∧ rowA H' (.slice a' n' k') (l.filter fun y => !dueB (due now t) y) ∧ rowA H' d' (l.filter (dueB (due now t))) ∧ Still H H' := by
  generalize hA1 : H.push (.cells [.int .i64 now, .slice a n k] T.ref02_Clock true) = A1
  have s1 : Still H A1 := by rw [← hA1]; exact (Fr.refl H).push _
  have n1 : A1.n = H.n + 1 := by rw [← hA1]; rfl
  have f1 : A1.f H.n = .cells [.int .i64 now, .slice a n k] T.ref02_Clock true := by rw [← hA1]; exact push_f_eq rfl
  generalize hA2 : A1.push (.cells [.int .i64 0, .slice none 0 0] T.ref02_Clock true) = A2
  have s2 : Still A1 A2 := by rw [← hA2]; exact (Fr.refl A1).push _
  have n2 : A2.n = A1.n + 1 := by rw [← hA2]; rfl
  have f2 : A2.f A1.n = .cells [.int .i64 0, .slice none 0 0] T.ref02_Clock true := by rw [← hA2]; exact push_f_eq rfl
  have f21 : A2.f H.n = .cells [.int .i64 now, .slice a n k] T.ref02_Clock true := by rw [s2.f (by omega) (fun h => h), f1]
  have s12 : Still H A2 := s1.still.then s2 fun _ _ h => h
  have ho2 : rowA A2 (.slice a n k) l := Own.still ho s12
  have hdue := q_ref_Due now t A2 hnow ht
  generalize due now t = nw at hdue ⊢
  have hneg : ¬ t < 0 := by omega
  generalize hA3 : (A2.push (.cells [.int .i64 0, .slice none 0 0] T.ref02_Clock true)).set A2.n (.cells [.int .i64 nw, .slice none 0 0] T.ref02_Clock true) = A3
  have s3 : Still A2 A3 := by rw [← hA3]; exact Fr.set ((Fr.refl A2).push _) _ _ (fun h => by omega)
  have n3 : A3.n = A2.n + 1 := by rw [← hA3]; rfl
  have f3 : A3.f A2.n = .cells [.int .i64 nw, .slice none 0 0] T.ref02_Clock true := by rw [← hA3]; exact set_f_eq
  have f31 : A3.f H.n = .cells [.int .i64 now, .slice a n k] T.ref02_Clock true := by rw [s3.f (by omega) (fun h => h), f21]
  have f32 : A3.f A1.n = .cells [.int .i64 0, .slice none 0 0] T.ref02_Clock true := by rw [s3.f (by omega) (fun h => h), f2]
  have s13 : Still H A3 := s12.still.then s3 fun _ _ h => h
  obtain ⟨a', n', k', d', A4, fr4, f4, o4, hb4, od4, hbd4, hloop⟩ := l_RPass l now nw a n k H.n A2.n (.pointer (some ⟨A1.n, 0, none⟩)) A3 (Own.still ho2 s3).rd f31 (by omega) (by omega) (by omega) (fun c hc h => by have := ho.blk hc; omega) (by omega) l 0 A3 none 0 0 (.slice none 0 0) [] [] rfl (by omega) (by simp) (by simp) (Fr.refl A3) f3 (.inl ⟨rfl, rfl⟩) (fun c hc => by cases hc) (.inl ⟨rfl, rfl⟩) (fun c hc => by cases hc)
  rw [List.nil_append] at o4 od4
  have f41 : A4.f A1.n = .cells [.int .i64 0, .slice none 0 0] T.ref02_Clock true := by rw [fr4.f (by omega) (by omega), f32]
  generalize hA5 : A4.set A1.n (.cells [.int .i64 nw, .slice a' n' k'] T.ref02_Clock true) = A5
  have fr5 : Fr (fun c => c = A1.n) A4 A5 := by rw [← hA5]; exact Fr.set (Fr.refl A4) _ _ fun _ => rfl
  have f5 : A5.f A1.n = .cells [.int .i64 nw, .slice a' n' k'] T.ref02_Clock true := by rw [← hA5]; exact set_f_eq
  have o5 : rowA A5 (.slice a' n' k') (l.filter fun y => !dueB nw y) := o4.keep fr5 fun c hc h => by have := hb4 c hc; omega
  have od5 : rowA A5 d' (l.filter (dueB nw)) := od4.keep fr5 fun c hc h => by have := hbd4 c hc; omega
  have s5 : Still H A5 := (s13.still.then fr4 fun c hc h => by omega).still.then fr5 fun c hc h => by omega
  obtain ⟨H'', hx, ⟨r1, r2⟩, s⟩ := any_tidied (P := fun G => rowA G (.slice a' n' k') (l.filter fun y => !dueB nw y) ∧ rowA G d' (l.filter (dueB nw))) (X := .tuple #[.agg #[.int .i64 nw, .slice a' n' k'], d', .int .i64 0]) s5 ⟨o5, od5⟩ fun hg => row_ref3 ⟨o5, od5⟩ hg
  refine ⟨a', n', k', d', H'', (d_ref02_Clock_Pass _ _ H (r := (.tuple #[.agg #[.int .i64 nw, .slice a' n' k'], d', .int .i64 0], A5)) ?_).trans (congrArg some hx), r1, r2, s⟩
  simp (disch := first | with_reducible rfl | assumption | omega | rfl | (simp only [go_sem]; first | done | omega)) only [go_sem, ↓reduceIte, reduceCtorEq, Nat.reduceEqDiff, Nat.reduceAdd, Nat.reduceSub, Nat.reduceMul, Nat.reduceDiv, Nat.reduceMod, Nat.reduceLeDiff, Nat.reduceLT, Nat.reduceBEq, Int.reduceEq, Int.reduceBEq, Int.reduceBNe, Int.reduceLT, Int.reduceLE, Int.reduceAdd, Int.reduceSub, Int.reduceNeg, Int.reduceToNat, Int.reducePow, Nat.reducePow, Int.reduceMul, Int.reduceDiv, ↓s_ref02_Clock_Pass, hA1, hA2, decide_eq_false hneg, f21, enterK_eq hdue, hA3]
  refine (hloop _).trans ?_
  simp (disch := first | with_reducible rfl | assumption | omega | rfl | (simp only [go_sem]; first | done | omega)) only [go_sem, ↓reduceIte, reduceCtorEq, Nat.reduceEqDiff, Nat.reduceAdd, Nat.reduceSub, Nat.reduceMul, Nat.reduceDiv, Nat.reduceMod, Nat.reduceLeDiff, Nat.reduceLT, Nat.reduceBEq, Int.reduceEq, Int.reduceBEq, Int.reduceBNe, Int.reduceLT, Int.reduceLE, Int.reduceAdd, Int.reduceSub, Int.reduceNeg, Int.reduceToNat, Int.reducePow, Nat.reducePow, Int.reduceMul, Int.reduceDiv, f4, f41, hA5, f5]

/-- A clock looks like the reference's. -/
theorem q_looks (b : Nat) (now : Int) (l : List Al) (a : Option Addr) (n k : Nat) (H : AHeap) (c : Clk H b now l) (o : rowA H (.slice a n k) l) (hl : l.length ≤ 4096) :
    CC F.law_looks [.pointer (some ⟨b, 0, none⟩), .agg #[.int .i64 now, .slice a n k]] H = some (.bool true, H) := by
  generalize hH1 : H.push (.cells [.int .i64 now, .slice a n k] T.ref02_Clock true) = H1
  have s1 : Still H H1 := by rw [← hH1]; exact (Fr.refl H).push _
  have n1 : H1.n = H.n + 1 := by rw [← hH1]; rfl
  have f1 : H1.f H.n = .cells [.int .i64 now, .slice a n k] T.ref02_Clock true := by rw [← hH1]; exact push_f_eq rfl
  have c1 := c.still s1
  have o1 : rowA H1 (.slice a n k) l := Own.still o s1
  have hnow := q_Now b now l H1 c1
  have hnext := q_Next b now l H1 c1
  have hrn := q_RNext l now a n k H1 o1.rd
  obtain ⟨v, H2, hal, o2, s2, _⟩ := q_Alarms b now l H1 c1 (by omega)
  have f2 : H2.f H.n = .cells [.int .i64 now, .slice a n k] T.ref02_Clock true := by rw [s2.f (by omega) (fun h => h), f1]
  have hsame := q_Same l l v (.slice a n k) H2 o2.rd (Own.still o1 s2).rd (by omega)
  rw [decide_eq_true rfl] at hsame
  have n2 : H1.n ≤ H2.n := s2.n
  have u2 : H2.ver H.n = H1.ver H.n := s2.ver (by omega) (fun h => h)
  refine pure_of (H' := H2) ?_ (d_law_looks _ _ H) rfl (s1.then s2 fun _ _ h => h)
  simp (disch := first | with_reducible rfl | assumption | omega | rfl | (simp only [go_sem]; first | done | omega)) only [go_sem, ↓reduceIte, reduceCtorEq, Nat.reduceEqDiff, Nat.reduceAdd, Nat.reduceSub, Nat.reduceMul, Nat.reduceDiv, Nat.reduceMod, Nat.reduceLeDiff, Nat.reduceLT, Nat.reduceBEq, Int.reduceEq, Int.reduceBEq, Int.reduceBNe, Int.reduceLT, Int.reduceLE, Int.reduceAdd, Int.reduceSub, Int.reduceNeg, Int.reduceToNat, Int.reducePow, Nat.reducePow, Int.reduceMul, Int.reduceDiv, ↓s_law_looks, hH1, enterK_eq hnow, f1, enterK_eq hnext, enterK_eq hrn, enterK_eq hal, f2, enterK_eq hsame]

/-- Behind a call that turns the clock alone, and answers with a row. -/
theorem tidied2 {H H' : AHeap} {b : Nat} {now now' : Int} {l l' l2 : List Al} {X v : Value} (ok : Ok H) (r : Clk H b now l) (c : Clk H' b now' l') (fr : Fr (fun x => x = b) H H') (hv : rowA H' v l2) (hX : gr 9 X = true → rowA H v l2) :
    ∃ H'', tidy H (X, H') = (X, H'') ∧ Clk H'' b now' l' ∧ rowA H'' v l2 ∧ Fr (fun x => x = b) H H'' := by
  unfold tidy
  split
  · rename_i hg
    simp only [Bool.and_eq_true] at hg
    refine ⟨H, rfl, ?_, hX hg.1, Fr.refl H⟩
    obtain ⟨v, h1, h2, h3, h4⟩ := r
    obtain ⟨v', h1', h2', h3', h4'⟩ := c
    have hsame : ∀ c, c < H.n → H'.f c = H.f c := by
      intro c hc
      rcases fr.old c hc with h | ⟨h, _⟩
      · exact h.2
      · have := List.all_eq_true.1 hg.2 c (by simpa using hc)
        have := ok c
        simp at *
        omega
    rw [hsame b h2, h1] at h1'
    cases h1'
    refine ⟨v, h1, h2, ?_, h4⟩
    rcases h3' with h | ⟨hl, x, hv, hs, hb⟩ | ⟨bb, o, c, xs, hv, hlc, hb, hff, ho, hx⟩
    · exact .inl h
    · exact .inr (.inl ⟨hl, x, hv, hs, h3.blk (by rw [hv]; rfl)⟩)
    · have hbb : bb < H.n := h3.blk (by rw [hv]; rfl)
      exact .inr (.inr ⟨bb, o, c, xs, hv, hlc, hbb, by rw [← hsame bb hbb]; exact hff, ho, hx⟩)
  · exact ⟨H', rfl, c, hv, fr⟩
theorem row_bool {x : Int} {t : Bool} {H H' : AHeap} {v : Value} {l : List Al} (r : rowA H' v l) (h : gr 9 (.tuple #[.agg #[.int .i64 x, v], .bool t]) = true) : rowA H v l := by
  rcases r with h' | ⟨_, a, rfl, _⟩ | ⟨b, o, c, xs, rfl, _⟩
  · exact .inl h'
  · exact absurd h (by simp [gr])
  · exact absurd h (by simp [gr])

/-! ### The clock's Clear is the reference's -/
def Uniq (l : List Al) : Prop := l.Pairwise fun a b => a.id ≠ b.id
theorem clear_take {l : List Al} (hu : Uniq l) {id : Int} {i : Nat} (hi : i < l.length) (he : l[i].id = id) : l.take i ++ l.drop (i + 1) = l.filter fun x => decide (x.id ≠ id) := by
  induction l generalizing i with
  | nil => simp at hi
  | cons y l ih =>
    obtain ⟨h1, h2⟩ := List.pairwise_cons.1 hu
    cases i with
    | zero =>
      simp only [List.getElem_cons_zero] at he
      rw [List.filter_cons_of_neg (by simp [he])]
      simp only [List.take_zero, List.nil_append, List.drop_succ_cons, List.drop_zero]
      exact (List.filter_eq_self.2 fun x hx => by have := h1 x hx; simp; omega).symm
    | succ i =>
      simp only [List.getElem_cons_succ] at he
      have hi' : i < l.length := by simpa using hi
      have hne : ¬ y.id = id := fun h => h1 _ (List.getElem_mem hi') (by rw [he, h])
      rw [List.filter_cons_of_pos (by simpa using hne), ← ih h2 hi' he]
      rfl
theorem q_clearE (b : Nat) (now id : Int) (l : List Al) (H : AHeap) (ok : Ok H) (r : Clk H b now l) (hu : Uniq l) (hl : l.length ≤ 4096) :
    ∃ H', CC F.clock_Clock_Clear [.pointer (some ⟨b, 0, none⟩), .int .i64 id] H = some (.int .i64 (clearE l id).1, H') ∧ Clk H' b now (clearE l id).2 ∧ Fr (fun x => x = b) H H' := by
  unfold clearE
  by_cases h : hasA l id = true
  · rw [if_pos h]
    obtain ⟨x, hx, he⟩ := List.any_eq_true.1 h
    obtain ⟨k, hk, hf, hk', he'⟩ := idxFrom_some (i := 0) ⟨x, hx, of_decide_eq_true he⟩
    have := q_Clear b now id l H ok r (by omega) k hk (by rw [hf]; omega)
    rw [clear_take hu hk' he'] at this
    exact this
  · rw [if_neg h]
    have : ¬ 0 ≤ idxFrom id l 0 := fun h' => h (has_idx.2 h')
    exact ⟨H, q_Clear_none b now id l H r (by omega) (by omega), r, Fr.refl H⟩
theorem take_due {l : List Al} (hs : Srt l) (hid : ∀ a, a ∈ l → 0 ≤ a.id) (nw : Int) : l.take (posA l (bnd nw)) = l.filter (dueB nw) ∧ l.drop (posA l (bnd nw)) = l.filter fun y => !dueB nw y := by
  have h1 : ∀ a, a ∈ l.take (posA l (bnd nw)) → dueB nw a = true := fun a ha => by
    have := (lt_bnd (hid a (List.mem_of_mem_take ha))).1 (pos_lt hs _ ha)
    simp [dueB, this]
  have h2 : ∀ a, a ∈ l.drop (posA l (bnd nw)) → dueB nw a = false := fun a ha => by
    have h := pos_ge hs (bnd nw) ha
    rw [lt_bnd (hid a (List.mem_of_mem_drop ha))] at h
    simp only [dueB]
    by_cases q : a.tm ≤ nw
    · have : ¬ a.tm < 4611686018427387904 := fun q2 => h ⟨q, q2⟩
      simp [this]
    · simp [q]
  have e := List.take_append_drop (posA l (bnd nw)) l
  generalize l.take (posA l (bnd nw)) = A at *
  generalize l.drop (posA l (bnd nw)) = B at *
  subst e
  constructor
  · rw [List.filter_append, List.filter_eq_self.2 h1, List.filter_eq_nil_iff.2 fun a ha => by rw [h2 a ha]; simp, List.append_nil]
  · rw [List.filter_append, List.filter_eq_nil_iff.2 fun a ha => by rw [h1 a ha]; simp, List.filter_eq_self.2 fun a ha => by rw [h2 a ha]; rfl, List.nil_append]

end Go.Proofs.Ytldgonjihhndgaa

/-
  The seat's functions as terms over the engine's combinators (a program of ours printed it).
  Conditions: none. By an AI agent.
-/
set_option linter.unusedVariables false
namespace Go.Proofs.Ytldgonjihhndgaa
open Go Eng

/-! ticketline.ticketlinelaw02.ClockHolds -/

noncomputable def s_law_ClockHolds (mg : GT) (mc : CT) (ms : ST) (P : Program) (C : CallF) (L0 : Value → Value → Value → Value → Value → Value → Value → AHeap → K → Res) (L1 : Value → Value → Value → Value → Value → Value → Value → Value → Value → Value → AHeap → K → Res) (L2 : Value → Value → Value → Value → Value → Value → Value → Value → Value → Value → Value → Value → Value → AHeap → K → Res) (L3 : Value → Value → Value → Value → Value → Value → Value → Value → Value → Value → Value → Value → Value → AHeap → K → Res) (a0 : Value) (a1 : Value) (a2 : Value) (H : AHeap) (K0 : K) : Res :=
bareK (lenS a1) H fun t25 h1 =>
bareK (xbin P .gtr T.int (.tmp 25) (.const (.int .i64 40)) t25 (.int .i64 40)) h1 fun t26 h2 =>
mg t26 false (fun o1 => o1 a2 h2) h2 fun t28 h3 =>
mg t26 false (fun o2 => bareK (lenS t28) h3 o2) h3 fun t29 h4 =>
mg t26 false (fun o3 => bareK (xbin P .gtr T.int (.tmp 29) (.const (.int .i64 20)) t29 (.int .i64 20)) h4 o3) h4 fun t30 h5 =>
pickK t26 (.bool true) t30 fun t31 =>
mc t31 (fun k4 => enterK C F.law_known [] h5 fun t32 h6 =>
k4 .ret [(6, t32)] h6) (fun k4 =>
k4 .normal [(0, a0), (1, a1), (2, a2)] h5) (seqK (fun tT h7 =>
enterK C F.clock_New [(get tT 0)] h7 fun t35 h8 =>
bareK (xextract t35 0) h8 fun t36 h9 =>
bareK (xextract t35 1) h9 fun t37 h10 =>
bareK (xbin P .neq T.api_Errno (.tmp 38) (.const (.int .i64 0)) t37 (.int .i64 0)) h10 fun t39 h11 =>
mc t39 (fun k5 => bareK (xbin P .eql T.p_clock_Clock (.tmp 40) (.const (.pointer none)) t36 (.pointer none)) h11 fun t41 h12 =>
mg t41 true (fun o6 => enterK C F.law_known [] h12 o6) h12 fun t43 h13 =>
pickK t41 t43 (.bool false) fun t44 =>
k5 .ret [(6, t44)] h13) (fun k5 =>
k5 .normal [(1, (get tT 1)), (2, (get tT 2)), (7, t36)] h11) (seqK (fun tT_1 h14 =>
bareK (xbin P .eql T.p_clock_Clock (.tmp 45) (.const (.pointer none)) (get tT_1 7) (.pointer none)) h14 fun t46 h15 =>
mc t46 (fun k7 => k7 .ret [(6, (.bool false))] h15) (fun k7 =>
k7 .normal [(1, (get tT_1 1)), (2, (get tT_1 2)), (7, (get tT_1 7))] h15) (seqK (fun tT_2 h16 =>
bareK (lenS (get tT_2 1)) h16 fun t48 h17 =>
ms (fun k8 =>
L0 (get tT_2 1) (get tT_2 2) (get tT_2 7) (.int .i64 0) (get tT_2 1) t48 (.int .i64 0) h17 (blkK [1, 2, 7, 9] 0 k8)) (seqK (fun tT_3 h18 =>
enterK C F.clock_Clock_Copy [(get tT_3 7)] h18 fun t63 h19 =>
bareK (xbin P .eql T.p_clock_Clock (.tmp 64) (.const (.pointer none)) t63 (.pointer none)) h19 fun t65 h20 =>
mc t65 (fun k9 => k9 .ret [(6, (.bool false))] h20) (fun k9 =>
k9 .normal [(1, (get tT_3 1)), (2, (get tT_3 2)), (7, (get tT_3 7)), (9, (get tT_3 9)), (12, t63)] h20) (seqK (fun tT_4 h21 =>
bareK (lenS (get tT_4 2)) h21 fun t67 h22 =>
ms (fun k10 =>
L1 (get tT_4 1) (get tT_4 2) (get tT_4 7) (get tT_4 9) (get tT_4 12) (.int .i64 0) (.slice none 0 0) (get tT_4 2) t67 (.int .i64 0) h22 (blkK [2, 7, 9, 12, 13, 14] 2 k10)) (seqK (fun tT_5 h23 =>
bareK (lenS (get tT_5 2)) h23 fun t165 h24 =>
bareK (xbin P .eql T.int (.tmp 165) (.const (.int .i64 0)) t165 (.int .i64 0)) h24 fun t166 h25 =>
mc t166 (fun k11 => enterK C F.clock_Clock_Alarms [(get tT_5 7)] h25 fun t168 h26 =>
bareK (lenS t168) h26 fun t169 h27 =>
bareK (xbin P .eql T.int (.tmp 169) (.tmp 170) t169 (get tT_5 9)) h27 fun t171 h28 =>
mg t171 true (fun o12 => enterK C F.law_known [] h28 o12) h28 fun t173 h29 =>
pickK t171 t173 (.bool false) fun t174 =>
k11 .ret [(6, t174)] h29) (fun k11 =>
k11 .normal [(7, (get tT_5 7)), (9, (get tT_5 9)), (12, (get tT_5 12)), (13, (get tT_5 13)), (14, (get tT_5 14))] h25) (seqK (fun tT_6 h30 =>
enterK C F.law_ticks [(get tT_6 12), (get tT_6 13), (.int .i64 0), (get tT_6 14)] h30 fun t178 h31 =>
mg t178 true (fun o13 => o13 (get tT_6 12) h31) h31 fun t180 h32 =>
mg t178 true (fun o14 => enterK C F.clock_Clock_Now [t180] h32 o14) h32 fun t181 h33 =>
mg t178 true (fun o15 => o15 (get tT_6 7) h33) h33 fun t182 h34 =>
mg t178 true (fun o16 => enterK C F.clock_Clock_Now [t182] h34 o16) h34 fun t183 h35 =>
mg t178 true (fun o17 => bareK (xbin P .eql T.int (.tmp 181) (.tmp 183) t181 t183) h35 o17) h35 fun t184 h36 =>
pickK t178 t184 (.bool false) fun t185 =>
mg t185 true (fun o18 => o18 (get tT_6 14) h36) h36 fun t187 h37 =>
mg t185 true (fun o19 => bareK (lenS t187) h37 o19) h37 fun t188 h38 =>
mg t185 true (fun o20 => o20 (get tT_6 7) h38) h38 fun t189 h39 =>
mg t185 true (fun o21 => enterK C F.clock_Clock_Alarms [t189] h39 o21) h39 fun t190 h40 =>
mg t185 true (fun o22 => bareK (lenS t190) h40 o22) h40 fun t191 h41 =>
mg t185 true (fun o23 => bareK (xbin P .add T.int (.tmp 188) (.tmp 191) t188 t191) h41 o23) h41 fun t192 h42 =>
mg t185 true (fun o24 => o24 (get tT_6 9) h42) h42 fun t193 h43 =>
mg t185 true (fun o25 => bareK (xbin P .eql T.int (.tmp 192) (.tmp 193) t192 t193) h43 o25) h43 fun t194 h44 =>
pickK t185 t194 (.bool false) fun t195 =>
mg t195 true (fun o26 => enterK C F.law_known [] h44 o26) h44 fun t197 h45 =>
pickK t195 t197 (.bool false) fun t198 =>
K0 .ret [(6, t198)] h45) K0)) K0)) K0)) K0)) K0)) K0)) K0)

noncomputable def s_law_ClockHolds_b0 (mg : GT) (mc : CT) (ms : ST) (P : Program) (C : CallF) (L0 : Value → Value → Value → Value → Value → Value → Value → AHeap → K → Res) (L1 : Value → Value → Value → Value → Value → Value → Value → Value → Value → Value → AHeap → K → Res) (L2 : Value → Value → Value → Value → Value → Value → Value → Value → Value → Value → Value → Value → Value → AHeap → K → Res) (L3 : Value → Value → Value → Value → Value → Value → Value → Value → Value → Value → Value → Value → Value → AHeap → K → Res) (v1 : Value) (v2 : Value) (v7 : Value) (v9 : Value) (v47 : Value) (v48 : Value) (v49 : Value) (H : AHeap) (k : K) : Res :=
bareK (xbin P .lss T.int (.tmp 49) (.tmp 48) v49 v48) H fun t50 h18 =>
mc t50 (fun k9 => k9 .normal [(1, v1), (2, v2), (7, v7), (9, v9), (47, v47), (48, v48), (49, v49)] h18) (fun k9 =>
k9 (.exit 0) [(50, t50), (1, v1), (2, v2), (7, v7), (9, v9), (47, v47), (48, v48), (49, v49)] h18) (seqK (fun tT h19 =>
ms (fun k10 =>
bareK (ixS 1 (get tT 47) (get tT 49)) h19 fun t52 h20 =>
bareK (ld1 h20 t52) h20 fun t53 h21 =>
enterK C F.clock_Clock_Set [(get tT 7), (get tT 49), t53] h21 fun t57 h22 =>
bareK (xbin P .eql T.api_Errno (.tmp 57) (.const (.int .i64 0)) t57 (.int .i64 0)) h22 fun t58 h23 =>
mc t58 (fun k11 => bareK (xbin P .add T.int (.tmp 59) (.const (.int .i64 1)) (get tT 9) (.int .i64 1)) h23 fun t60 h24 =>
k11 .normal [(1, (get tT 1)), (2, (get tT 2)), (7, (get tT 7)), (9, t60), (47, (get tT 47)), (48, (get tT 48)), (49, (get tT 49))] h24) (fun k11 =>
k11 .normal [(1, (get tT 1)), (2, (get tT 2)), (7, (get tT 7)), (9, (get tT 9)), (47, (get tT 47)), (48, (get tT 48)), (49, (get tT 49))] h23) (blkK [1, 2, 7, 9, 47, 48, 49] 1 k10)) (seqK (fun tT_1 h25 =>
bareK (xbin P .add T.int (.tmp 49) (.const (.int .i64 1)) (get tT_1 49) (.int .i64 1)) h25 fun t61 h26 =>
k .normal [(1, (get tT_1 1)), (2, (get tT_1 2)), (7, (get tT_1 7)), (9, (get tT_1 9)), (47, (get tT_1 47)), (48, (get tT_1 48)), (49, t61)] h26) (afterK [1, 2, 7, 9, 47, 48, 49] k))) (afterK [1, 2, 7, 9, 47, 48, 49] k))

noncomputable def s_law_ClockHolds_b1 (mg : GT) (mc : CT) (ms : ST) (P : Program) (C : CallF) (L0 : Value → Value → Value → Value → Value → Value → Value → AHeap → K → Res) (L1 : Value → Value → Value → Value → Value → Value → Value → Value → Value → Value → AHeap → K → Res) (L2 : Value → Value → Value → Value → Value → Value → Value → Value → Value → Value → Value → Value → Value → AHeap → K → Res) (L3 : Value → Value → Value → Value → Value → Value → Value → Value → Value → Value → Value → Value → Value → AHeap → K → Res) (v1 : Value) (v2 : Value) (v7 : Value) (v9 : Value) (v12 : Value) (v13 : Value) (v14 : Value) (v66 : Value) (v67 : Value) (v68 : Value) (H : AHeap) (k : K) : Res :=
bareK (xbin P .lss T.int (.tmp 68) (.tmp 67) v68 v67) H fun t69 h23 =>
mc t69 (fun k11 => k11 .normal [(1, v1), (2, v2), (7, v7), (9, v9), (12, v12), (13, v13), (14, v14), (66, v66), (67, v67), (68, v68)] h23) (fun k11 =>
k11 (.exit 2) [(69, t69), (1, v1), (2, v2), (7, v7), (9, v9), (12, v12), (13, v13), (14, v14), (66, v66), (67, v67), (68, v68)] h23) (seqK (fun tT h24 =>
ms (fun k12 =>
bareK (ixS 1 (get tT 66) (get tT 68)) h24 fun t70 h25 =>
bareK (ld1 h25 t70) h25 fun t71 h26 =>
bareK (xbin P .lss T.int (.tmp 72) (.const (.int .i64 0)) t71 (.int .i64 0)) h26 fun t73 h27 =>
mg t73 false (fun o13 => o13 t71 h27) h27 fun t75 h28 =>
mg t73 false (fun o14 => bareK (xbin P .gtr T.int (.tmp 75) (.const (.int .i64 1099511627776)) t75 (.int .i64 1099511627776)) h28 o14) h28 fun t76 h29 =>
pickK t73 (.bool true) t76 fun t77 =>
mc t77 (fun k15 => enterK C F.law_known [] h29 fun t78 h30 =>
k15 .ret [(6, t78)] h30) (fun k15 =>
k15 .normal [(1, (get tT 1)), (2, (get tT 2)), (7, (get tT 7)), (9, (get tT 9)), (12, (get tT 12)), (13, (get tT 13)), (14, (get tT 14)), (16, t71), (66, (get tT 66)), (67, (get tT 67)), (68, (get tT 68))] h29) (seqK (fun tT_1 h31 =>
enterK C F.clock_Clock_Now [(get tT_1 7)] h31 fun t80 h32 =>
enterK C F.clock_Clock_Tick [(get tT_1 7), (get tT_1 16)] h32 fun t84 h33 =>
bareK (xextract t84 0) h33 fun t85 h34 =>
bareK (xextract t84 1) h34 fun t86 h35 =>
bareK (xbin P .add T.int (.tmp 87) (.tmp 88) (get tT_1 13) (get tT_1 16)) h35 fun t89 h36 =>
bothK (app T.api_Alarm 2 16 (get tT_1 14) (srcS 2 t85 h36) h36) fun t92 h37 =>
bareK (xbin P .neq T.api_Errno (.tmp 93) (.const (.int .i64 0)) t86 (.int .i64 0)) h37 fun t94 h38 =>
mg t94 false (fun o16 => o16 (get tT_1 7) h38) h38 fun t96 h39 =>
mg t94 false (fun o17 => enterK C F.clock_Clock_Now [t96] h39 o17) h39 fun t97 h40 =>
mg t94 false (fun o18 => o18 t80 h40) h40 fun t98 h41 =>
mg t94 false (fun o19 => bareK (xbin P .lss T.int (.tmp 97) (.tmp 98) t97 t98) h41 o19) h41 fun t99 h42 =>
pickK t94 (.bool true) t99 fun t100 =>
mg t100 false (fun o20 => o20 (get tT_1 7) h42) h42 fun t102 h43 =>
mg t100 false (fun o21 => enterK C F.clock_Clock_Now [t102] h43 o21) h43 fun t103 h44 =>
mg t100 false (fun o22 => bareK (xbin P .gtr T.int (.tmp 103) (.const (.int .i64 4611686018427387904)) t103 (.int .i64 4611686018427387904)) h44 o22) h44 fun t104 h45 =>
pickK t100 (.bool true) t104 fun t105 =>
mc t105 (fun k23 => k23 .ret [(6, (.bool false))] h45) (fun k23 =>
k23 .normal [(1, (get tT_1 1)), (2, (get tT_1 2)), (7, (get tT_1 7)), (9, (get tT_1 9)), (12, (get tT_1 12)), (13, t89), (14, t92), (18, t85), (66, (get tT_1 66)), (67, (get tT_1 67)), (68, (get tT_1 68))] h45) (seqK (fun tT_2 h46 =>
bareK (lenS (get tT_2 18)) h46 fun t107 h47 =>
ms (fun k24 =>
L2 (get tT_2 1) (get tT_2 2) (get tT_2 7) (get tT_2 9) (get tT_2 12) (get tT_2 13) (get tT_2 14) (get tT_2 66) (get tT_2 67) (get tT_2 68) (get tT_2 18) t107 (.int .i64 0) h47 (blkK [1, 2, 7, 9, 12, 13, 14, 66, 67, 68] 4 k24)) (seqK (fun tT_3 h48 =>
enterK C F.clock_Clock_Alarms [(get tT_3 7)] h48 fun t146 h49 =>
bareK (lenS t146) h49 fun t147 h50 =>
ms (fun k25 =>
L3 (get tT_3 1) (get tT_3 2) (get tT_3 7) (get tT_3 9) (get tT_3 12) (get tT_3 13) (get tT_3 14) (get tT_3 66) (get tT_3 67) (get tT_3 68) t146 t147 (.int .i64 0) h50 (blkK [1, 2, 7, 9, 12, 13, 14, 66, 67, 68] 6 k25)) (blkK [1, 2, 7, 9, 12, 13, 14, 66, 67, 68] 3 k12)) (blkK [1, 2, 7, 9, 12, 13, 14, 66, 67, 68] 3 k12))) (blkK [1, 2, 7, 9, 12, 13, 14, 66, 67, 68] 3 k12))) (blkK [1, 2, 7, 9, 12, 13, 14, 66, 67, 68] 3 k12))) (seqK (fun tT_4 h51 =>
bareK (xbin P .add T.int (.tmp 68) (.const (.int .i64 1)) (get tT_4 68) (.int .i64 1)) h51 fun t163 h52 =>
k .normal [(1, (get tT_4 1)), (2, (get tT_4 2)), (7, (get tT_4 7)), (9, (get tT_4 9)), (12, (get tT_4 12)), (13, (get tT_4 13)), (14, (get tT_4 14)), (66, (get tT_4 66)), (67, (get tT_4 67)), (68, t163)] h52) (afterK [1, 2, 7, 9, 12, 13, 14, 66, 67, 68] k))) (afterK [1, 2, 7, 9, 12, 13, 14, 66, 67, 68] k))

noncomputable def s_law_ClockHolds_b2 (mg : GT) (mc : CT) (ms : ST) (P : Program) (C : CallF) (L0 : Value → Value → Value → Value → Value → Value → Value → AHeap → K → Res) (L1 : Value → Value → Value → Value → Value → Value → Value → Value → Value → Value → AHeap → K → Res) (L2 : Value → Value → Value → Value → Value → Value → Value → Value → Value → Value → Value → Value → Value → AHeap → K → Res) (L3 : Value → Value → Value → Value → Value → Value → Value → Value → Value → Value → Value → Value → Value → AHeap → K → Res) (v1 : Value) (v2 : Value) (v7 : Value) (v9 : Value) (v12 : Value) (v13 : Value) (v14 : Value) (v66 : Value) (v67 : Value) (v68 : Value) (v106 : Value) (v107 : Value) (v108 : Value) (H : AHeap) (k : K) : Res :=
bareK (xbin P .lss T.int (.tmp 108) (.tmp 107) v108 v107) H fun t109 h48 =>
mc t109 (fun k25 => k25 .normal [(1, v1), (2, v2), (7, v7), (9, v9), (12, v12), (13, v13), (14, v14), (66, v66), (67, v67), (68, v68), (106, v106), (107, v107), (108, v108)] h48) (fun k25 =>
k25 (.exit 4) [(109, t109), (1, v1), (2, v2), (7, v7), (9, v9), (12, v12), (13, v13), (14, v14), (66, v66), (67, v67), (68, v68), (106, v106), (107, v107), (108, v108)] h48) (seqK (fun tT h49 =>
ms (fun k26 =>
bareK (ixS 2 (get tT 106) (get tT 108)) h49 fun t110 h50 =>
bareK (ldN 2 h50 t110) h50 fun t111 h51 =>
bothK (newv T.api_Alarm (.agg #[(.int .i64 0), (.int .i64 0)]) h51) fun t21 h52 =>
quietK (stN 2 h52 t21 t111) fun _ h53 =>
bareK (fad 1 t21) h53 fun t112 h54 =>
bareK (ld1 h54 t112) h54 fun t113 h55 =>
enterK C F.clock_Clock_Now [(get tT 7)] h55 fun t115 h56 =>
bareK (xbin P .gtr T.int (.tmp 113) (.tmp 115) t113 t115) h56 fun t116 h57 =>
mg t116 false (fun o27 => bareK (fad 1 t21) h57 o27) h57 fun t118 h58 =>
mg t116 false (fun o28 => bareK (ld1 h58 t118) h58 o28) h58 fun t119 h59 =>
mg t116 false (fun o29 => bareK (xbin P .geq T.int (.tmp 119) (.const (.int .i64 4611686018427387904)) t119 (.int .i64 4611686018427387904)) h59 o29) h59 fun t120 h60 =>
pickK t116 (.bool true) t120 fun t121 =>
mg t121 false (fun o30 => bareK (fad 0 t21) h60 o30) h60 fun t123 h61 =>
mg t121 false (fun o31 => bareK (ld1 h61 t123) h61 o31) h61 fun t124 h62 =>
mg t121 false (fun o32 => bareK (xbin P .lss T.int (.tmp 124) (.const (.int .i64 0)) t124 (.int .i64 0)) h62 o32) h62 fun t125 h63 =>
pickK t121 (.bool true) t125 fun t126 =>
mg t126 false (fun o33 => bareK (fad 0 t21) h63 o33) h63 fun t128 h64 =>
mg t126 false (fun o34 => bareK (ld1 h64 t128) h64 o34) h64 fun t129 h65 =>
mg t126 false (fun o35 => o35 (get tT 1) h65) h65 fun t130 h66 =>
mg t126 false (fun o36 => bareK (lenS t130) h66 o36) h66 fun t131 h67 =>
mg t126 false (fun o37 => bareK (xbin P .geq T.int (.tmp 129) (.tmp 131) t129 t131) h67 o37) h67 fun t132 h68 =>
pickK t126 (.bool true) t132 fun t133 =>
mg t133 false (fun o38 => o38 (get tT 1) h68) h68 fun t135 h69 =>
mg t133 false (fun o39 => bareK (fad 0 t21) h69 o39) h69 fun t136 h70 =>
mg t133 false (fun o40 => bareK (ld1 h70 t136) h70 o40) h70 fun t137 h71 =>
mg t133 false (fun o41 => bareK (ixS 1 t135 t137) h71 o41) h71 fun t138 h72 =>
mg t133 false (fun o42 => bareK (ld1 h72 t138) h72 o42) h72 fun t139 h73 =>
mg t133 false (fun o43 => bareK (fad 1 t21) h73 o43) h73 fun t140 h74 =>
mg t133 false (fun o44 => bareK (ld1 h74 t140) h74 o44) h74 fun t141 h75 =>
mg t133 false (fun o45 => bareK (xbin P .neq T.int (.tmp 139) (.tmp 141) t139 t141) h75 o45) h75 fun t142 h76 =>
pickK t133 (.bool true) t142 fun t143 =>
checkK (okV (some true) none h55 h56 h53 h54 && (okV (some true) (blockOf t112) h55 h56 h54 h55 && true)) <|
mc t143 (fun k46 => k46 .ret [(6, (.bool false))] h76) (fun k46 =>
k46 .normal [(1, (get tT 1)), (2, (get tT 2)), (7, (get tT 7)), (9, (get tT 9)), (12, (get tT 12)), (13, (get tT 13)), (14, (get tT 14)), (66, (get tT 66)), (67, (get tT 67)), (68, (get tT 68)), (106, (get tT 106)), (107, (get tT 107)), (108, (get tT 108))] h76) (blkK [1, 2, 7, 9, 12, 13, 14, 66, 67, 68, 106, 107, 108] 5 k26)) (seqK (fun tT_1 h77 =>
bareK (xbin P .add T.int (.tmp 108) (.const (.int .i64 1)) (get tT_1 108) (.int .i64 1)) h77 fun t144 h78 =>
k .normal [(1, (get tT_1 1)), (2, (get tT_1 2)), (7, (get tT_1 7)), (9, (get tT_1 9)), (12, (get tT_1 12)), (13, (get tT_1 13)), (14, (get tT_1 14)), (66, (get tT_1 66)), (67, (get tT_1 67)), (68, (get tT_1 68)), (106, (get tT_1 106)), (107, (get tT_1 107)), (108, t144)] h78) (afterK [1, 2, 7, 9, 12, 13, 14, 66, 67, 68, 106, 107, 108] k))) (afterK [1, 2, 7, 9, 12, 13, 14, 66, 67, 68, 106, 107, 108] k))

noncomputable def s_law_ClockHolds_b3 (mg : GT) (mc : CT) (ms : ST) (P : Program) (C : CallF) (L0 : Value → Value → Value → Value → Value → Value → Value → AHeap → K → Res) (L1 : Value → Value → Value → Value → Value → Value → Value → Value → Value → Value → AHeap → K → Res) (L2 : Value → Value → Value → Value → Value → Value → Value → Value → Value → Value → Value → Value → Value → AHeap → K → Res) (L3 : Value → Value → Value → Value → Value → Value → Value → Value → Value → Value → Value → Value → Value → AHeap → K → Res) (v1 : Value) (v2 : Value) (v7 : Value) (v9 : Value) (v12 : Value) (v13 : Value) (v14 : Value) (v66 : Value) (v67 : Value) (v68 : Value) (v146 : Value) (v147 : Value) (v148 : Value) (H : AHeap) (k : K) : Res :=
bareK (xbin P .lss T.int (.tmp 148) (.tmp 147) v148 v147) H fun t149 h51 =>
mc t149 (fun k26 => k26 .normal [(1, v1), (2, v2), (7, v7), (9, v9), (12, v12), (13, v13), (14, v14), (66, v66), (67, v67), (68, v68), (146, v146), (147, v147), (148, v148)] h51) (fun k26 =>
k26 (.exit 6) [(149, t149), (1, v1), (2, v2), (7, v7), (9, v9), (12, v12), (13, v13), (14, v14), (66, v66), (67, v67), (68, v68), (146, v146), (147, v147), (148, v148)] h51) (seqK (fun tT h52 =>
ms (fun k27 =>
bareK (ixS 2 (get tT 146) (get tT 148)) h52 fun t150 h53 =>
bareK (ldN 2 h53 t150) h53 fun t151 h54 =>
bothK (newv T.api_Alarm (.agg #[(.int .i64 0), (.int .i64 0)]) h54) fun t23 h55 =>
quietK (stN 2 h55 t23 t151) fun _ h56 =>
bareK (fad 1 t23) h56 fun t152 h57 =>
bareK (ld1 h57 t152) h57 fun t153 h58 =>
enterK C F.clock_Clock_Now [(get tT 7)] h58 fun t155 h59 =>
bareK (xbin P .leq T.int (.tmp 153) (.tmp 155) t153 t155) h59 fun t156 h60 =>
mg t156 true (fun o28 => bareK (fad 1 t23) h60 o28) h60 fun t158 h61 =>
mg t156 true (fun o29 => bareK (ld1 h61 t158) h61 o29) h61 fun t159 h62 =>
mg t156 true (fun o30 => bareK (xbin P .lss T.int (.tmp 159) (.const (.int .i64 4611686018427387904)) t159 (.int .i64 4611686018427387904)) h62 o30) h62 fun t160 h63 =>
pickK t156 t160 (.bool false) fun t161 =>
checkK (okV (some true) none h58 h59 h56 h57 && (okV (some true) (blockOf t152) h58 h59 h57 h58 && true)) <|
mc t161 (fun k31 => k31 .ret [(6, (.bool false))] h63) (fun k31 =>
k31 .normal [(1, (get tT 1)), (2, (get tT 2)), (7, (get tT 7)), (9, (get tT 9)), (12, (get tT 12)), (13, (get tT 13)), (14, (get tT 14)), (66, (get tT 66)), (67, (get tT 67)), (68, (get tT 68)), (146, (get tT 146)), (147, (get tT 147)), (148, (get tT 148))] h63) (blkK [1, 2, 7, 9, 12, 13, 14, 66, 67, 68, 146, 147, 148] 7 k27)) (seqK (fun tT_1 h64 =>
bareK (xbin P .add T.int (.tmp 148) (.const (.int .i64 1)) (get tT_1 148) (.int .i64 1)) h64 fun t162 h65 =>
k .normal [(1, (get tT_1 1)), (2, (get tT_1 2)), (7, (get tT_1 7)), (9, (get tT_1 9)), (12, (get tT_1 12)), (13, (get tT_1 13)), (14, (get tT_1 14)), (66, (get tT_1 66)), (67, (get tT_1 67)), (68, (get tT_1 68)), (146, (get tT_1 146)), (147, (get tT_1 147)), (148, t162)] h65) (afterK [1, 2, 7, 9, 12, 13, 14, 66, 67, 68, 146, 147, 148] k))) (afterK [1, 2, 7, 9, 12, 13, 14, 66, 67, 68, 146, 147, 148] k))

theorem s_law_ClockHolds_eq (M : CombL) (C : CallF) (LP : LoopH) (a0 : Value) (a1 : Value) (a2 : Value) (H : AHeap) : dBodyL M Try.prog hints C LP F.law_ClockHolds [a0, a1, a2] H = s_law_ClockHolds M.b.g M.c M.s Try.prog C (fun v1 v2 v7 v9 v47 v48 v49 H k => loopL M Try.prog hints C LP F.law_ClockHolds 0 [(1, v1), (2, v2), (7, v7), (9, v9), (47, v47), (48, v48), (49, v49)] H k) (fun v1 v2 v7 v9 v12 v13 v14 v66 v67 v68 H k => loopL M Try.prog hints C LP F.law_ClockHolds 1 [(1, v1), (2, v2), (7, v7), (9, v9), (12, v12), (13, v13), (14, v14), (66, v66), (67, v67), (68, v68)] H k) (fun v1 v2 v7 v9 v12 v13 v14 v66 v67 v68 v106 v107 v108 H k => loopL M Try.prog hints C LP F.law_ClockHolds 2 [(1, v1), (2, v2), (7, v7), (9, v9), (12, v12), (13, v13), (14, v14), (66, v66), (67, v67), (68, v68), (106, v106), (107, v107), (108, v108)] H k) (fun v1 v2 v7 v9 v12 v13 v14 v66 v67 v68 v146 v147 v148 H k => loopL M Try.prog hints C LP F.law_ClockHolds 3 [(1, v1), (2, v2), (7, v7), (9, v9), (12, v12), (13, v13), (14, v14), (66, v66), (67, v67), (68, v68), (146, v146), (147, v147), (148, v148)] H k) a0 a1 a2 H (endK Try.prog [.tmp 6]) := by kernel_rfl

theorem s_law_ClockHolds_b0_eq (M : CombL) (C : CallF) (LP : LoopH) (v1 : Value) (v2 : Value) (v7 : Value) (v9 : Value) (v47 : Value) (v48 : Value) (v49 : Value) (H : AHeap) (k : K) : bodyL M Try.prog hints C LP F.law_ClockHolds 0 [(1, v1), (2, v2), (7, v7), (9, v9), (47, v47), (48, v48), (49, v49)] H (afterK [1, 2, 7, 9, 47, 48, 49] k) = s_law_ClockHolds_b0 M.b.g M.c M.s Try.prog C (fun v1 v2 v7 v9 v47 v48 v49 H k => loopL M Try.prog hints C LP F.law_ClockHolds 0 [(1, v1), (2, v2), (7, v7), (9, v9), (47, v47), (48, v48), (49, v49)] H k) (fun v1 v2 v7 v9 v12 v13 v14 v66 v67 v68 H k => loopL M Try.prog hints C LP F.law_ClockHolds 1 [(1, v1), (2, v2), (7, v7), (9, v9), (12, v12), (13, v13), (14, v14), (66, v66), (67, v67), (68, v68)] H k) (fun v1 v2 v7 v9 v12 v13 v14 v66 v67 v68 v106 v107 v108 H k => loopL M Try.prog hints C LP F.law_ClockHolds 2 [(1, v1), (2, v2), (7, v7), (9, v9), (12, v12), (13, v13), (14, v14), (66, v66), (67, v67), (68, v68), (106, v106), (107, v107), (108, v108)] H k) (fun v1 v2 v7 v9 v12 v13 v14 v66 v67 v68 v146 v147 v148 H k => loopL M Try.prog hints C LP F.law_ClockHolds 3 [(1, v1), (2, v2), (7, v7), (9, v9), (12, v12), (13, v13), (14, v14), (66, v66), (67, v67), (68, v68), (146, v146), (147, v147), (148, v148)] H k) v1 v2 v7 v9 v47 v48 v49 H k := by kernel_rfl

theorem s_law_ClockHolds_b1_eq (M : CombL) (C : CallF) (LP : LoopH) (v1 : Value) (v2 : Value) (v7 : Value) (v9 : Value) (v12 : Value) (v13 : Value) (v14 : Value) (v66 : Value) (v67 : Value) (v68 : Value) (H : AHeap) (k : K) : bodyL M Try.prog hints C LP F.law_ClockHolds 1 [(1, v1), (2, v2), (7, v7), (9, v9), (12, v12), (13, v13), (14, v14), (66, v66), (67, v67), (68, v68)] H (afterK [1, 2, 7, 9, 12, 13, 14, 66, 67, 68] k) = s_law_ClockHolds_b1 M.b.g M.c M.s Try.prog C (fun v1 v2 v7 v9 v47 v48 v49 H k => loopL M Try.prog hints C LP F.law_ClockHolds 0 [(1, v1), (2, v2), (7, v7), (9, v9), (47, v47), (48, v48), (49, v49)] H k) (fun v1 v2 v7 v9 v12 v13 v14 v66 v67 v68 H k => loopL M Try.prog hints C LP F.law_ClockHolds 1 [(1, v1), (2, v2), (7, v7), (9, v9), (12, v12), (13, v13), (14, v14), (66, v66), (67, v67), (68, v68)] H k) (fun v1 v2 v7 v9 v12 v13 v14 v66 v67 v68 v106 v107 v108 H k => loopL M Try.prog hints C LP F.law_ClockHolds 2 [(1, v1), (2, v2), (7, v7), (9, v9), (12, v12), (13, v13), (14, v14), (66, v66), (67, v67), (68, v68), (106, v106), (107, v107), (108, v108)] H k) (fun v1 v2 v7 v9 v12 v13 v14 v66 v67 v68 v146 v147 v148 H k => loopL M Try.prog hints C LP F.law_ClockHolds 3 [(1, v1), (2, v2), (7, v7), (9, v9), (12, v12), (13, v13), (14, v14), (66, v66), (67, v67), (68, v68), (146, v146), (147, v147), (148, v148)] H k) v1 v2 v7 v9 v12 v13 v14 v66 v67 v68 H k := by kernel_rfl

theorem s_law_ClockHolds_b2_eq (M : CombL) (C : CallF) (LP : LoopH) (v1 : Value) (v2 : Value) (v7 : Value) (v9 : Value) (v12 : Value) (v13 : Value) (v14 : Value) (v66 : Value) (v67 : Value) (v68 : Value) (v106 : Value) (v107 : Value) (v108 : Value) (H : AHeap) (k : K) : bodyL M Try.prog hints C LP F.law_ClockHolds 2 [(1, v1), (2, v2), (7, v7), (9, v9), (12, v12), (13, v13), (14, v14), (66, v66), (67, v67), (68, v68), (106, v106), (107, v107), (108, v108)] H (afterK [1, 2, 7, 9, 12, 13, 14, 66, 67, 68, 106, 107, 108] k) = s_law_ClockHolds_b2 M.b.g M.c M.s Try.prog C (fun v1 v2 v7 v9 v47 v48 v49 H k => loopL M Try.prog hints C LP F.law_ClockHolds 0 [(1, v1), (2, v2), (7, v7), (9, v9), (47, v47), (48, v48), (49, v49)] H k) (fun v1 v2 v7 v9 v12 v13 v14 v66 v67 v68 H k => loopL M Try.prog hints C LP F.law_ClockHolds 1 [(1, v1), (2, v2), (7, v7), (9, v9), (12, v12), (13, v13), (14, v14), (66, v66), (67, v67), (68, v68)] H k) (fun v1 v2 v7 v9 v12 v13 v14 v66 v67 v68 v106 v107 v108 H k => loopL M Try.prog hints C LP F.law_ClockHolds 2 [(1, v1), (2, v2), (7, v7), (9, v9), (12, v12), (13, v13), (14, v14), (66, v66), (67, v67), (68, v68), (106, v106), (107, v107), (108, v108)] H k) (fun v1 v2 v7 v9 v12 v13 v14 v66 v67 v68 v146 v147 v148 H k => loopL M Try.prog hints C LP F.law_ClockHolds 3 [(1, v1), (2, v2), (7, v7), (9, v9), (12, v12), (13, v13), (14, v14), (66, v66), (67, v67), (68, v68), (146, v146), (147, v147), (148, v148)] H k) v1 v2 v7 v9 v12 v13 v14 v66 v67 v68 v106 v107 v108 H k := by kernel_rfl

theorem s_law_ClockHolds_b3_eq (M : CombL) (C : CallF) (LP : LoopH) (v1 : Value) (v2 : Value) (v7 : Value) (v9 : Value) (v12 : Value) (v13 : Value) (v14 : Value) (v66 : Value) (v67 : Value) (v68 : Value) (v146 : Value) (v147 : Value) (v148 : Value) (H : AHeap) (k : K) : bodyL M Try.prog hints C LP F.law_ClockHolds 3 [(1, v1), (2, v2), (7, v7), (9, v9), (12, v12), (13, v13), (14, v14), (66, v66), (67, v67), (68, v68), (146, v146), (147, v147), (148, v148)] H (afterK [1, 2, 7, 9, 12, 13, 14, 66, 67, 68, 146, 147, 148] k) = s_law_ClockHolds_b3 M.b.g M.c M.s Try.prog C (fun v1 v2 v7 v9 v47 v48 v49 H k => loopL M Try.prog hints C LP F.law_ClockHolds 0 [(1, v1), (2, v2), (7, v7), (9, v9), (47, v47), (48, v48), (49, v49)] H k) (fun v1 v2 v7 v9 v12 v13 v14 v66 v67 v68 H k => loopL M Try.prog hints C LP F.law_ClockHolds 1 [(1, v1), (2, v2), (7, v7), (9, v9), (12, v12), (13, v13), (14, v14), (66, v66), (67, v67), (68, v68)] H k) (fun v1 v2 v7 v9 v12 v13 v14 v66 v67 v68 v106 v107 v108 H k => loopL M Try.prog hints C LP F.law_ClockHolds 2 [(1, v1), (2, v2), (7, v7), (9, v9), (12, v12), (13, v13), (14, v14), (66, v66), (67, v67), (68, v68), (106, v106), (107, v107), (108, v108)] H k) (fun v1 v2 v7 v9 v12 v13 v14 v66 v67 v68 v146 v147 v148 H k => loopL M Try.prog hints C LP F.law_ClockHolds 3 [(1, v1), (2, v2), (7, v7), (9, v9), (12, v12), (13, v13), (14, v14), (66, v66), (67, v67), (68, v68), (146, v146), (147, v147), (148, v148)] H k) v1 v2 v7 v9 v12 v13 v14 v66 v67 v68 v146 v147 v148 H k := by kernel_rfl

end Go.Proofs.Ytldgonjihhndgaa

/-
  The equations of the seat's functions over calls in the limit (a program of ours printed it).
  Conditions: none. By an AI agent.
-/
set_option linter.unusedVariables false
namespace Go.Proofs.Ytldgonjihhndgaa
open Go Eng



noncomputable def l_law_ClockHolds_0 (v1 : Value) (v2 : Value) (v7 : Value) (v9 : Value) (v47 : Value) (v48 : Value) (v49 : Value) (H : AHeap) (k : K) : Res := loopL stdL Try.prog hints CC limLP F.law_ClockHolds 0 [(1, v1), (2, v2), (7, v7), (9, v9), (47, v47), (48, v48), (49, v49)] H k
noncomputable def l_law_ClockHolds_1 (v1 : Value) (v2 : Value) (v7 : Value) (v9 : Value) (v12 : Value) (v13 : Value) (v14 : Value) (v66 : Value) (v67 : Value) (v68 : Value) (H : AHeap) (k : K) : Res := loopL stdL Try.prog hints CC limLP F.law_ClockHolds 1 [(1, v1), (2, v2), (7, v7), (9, v9), (12, v12), (13, v13), (14, v14), (66, v66), (67, v67), (68, v68)] H k
noncomputable def l_law_ClockHolds_2 (v1 : Value) (v2 : Value) (v7 : Value) (v9 : Value) (v12 : Value) (v13 : Value) (v14 : Value) (v66 : Value) (v67 : Value) (v68 : Value) (v106 : Value) (v107 : Value) (v108 : Value) (H : AHeap) (k : K) : Res := loopL stdL Try.prog hints CC limLP F.law_ClockHolds 2 [(1, v1), (2, v2), (7, v7), (9, v9), (12, v12), (13, v13), (14, v14), (66, v66), (67, v67), (68, v68), (106, v106), (107, v107), (108, v108)] H k
noncomputable def l_law_ClockHolds_3 (v1 : Value) (v2 : Value) (v7 : Value) (v9 : Value) (v12 : Value) (v13 : Value) (v14 : Value) (v66 : Value) (v67 : Value) (v68 : Value) (v146 : Value) (v147 : Value) (v148 : Value) (H : AHeap) (k : K) : Res := loopL stdL Try.prog hints CC limLP F.law_ClockHolds 3 [(1, v1), (2, v2), (7, v7), (9, v9), (12, v12), (13, v13), (14, v14), (66, v66), (67, v67), (68, v68), (146, v146), (147, v147), (148, v148)] H k
theorem r_law_ClockHolds_0 (v1 : Value) (v2 : Value) (v7 : Value) (v9 : Value) (v47 : Value) (v48 : Value) (v49 : Value) (H : AHeap) (k : K) : l_law_ClockHolds_0 v1 v2 v7 v9 v47 v48 v49 H k = s_law_ClockHolds_b0 guardK condL shareL Try.prog CC l_law_ClockHolds_0 l_law_ClockHolds_1 l_law_ClockHolds_2 l_law_ClockHolds_3 v1 v2 v7 v9 v47 v48 v49 H (seqK (fun T H => l_law_ClockHolds_0 (get T 1) (get T 2) (get T 7) (get T 9) (get T 47) (get T 48) (get T 49) H k) k) := ((loopL_next (by kernel_rfl) rfl H k).trans (s_law_ClockHolds_b0_eq stdL CC limLP v1 v2 v7 v9 v47 v48 v49 H _)).trans (by kernel_rfl)
theorem r_law_ClockHolds_1 (v1 : Value) (v2 : Value) (v7 : Value) (v9 : Value) (v12 : Value) (v13 : Value) (v14 : Value) (v66 : Value) (v67 : Value) (v68 : Value) (H : AHeap) (k : K) : l_law_ClockHolds_1 v1 v2 v7 v9 v12 v13 v14 v66 v67 v68 H k = s_law_ClockHolds_b1 guardK condL shareL Try.prog CC l_law_ClockHolds_0 l_law_ClockHolds_1 l_law_ClockHolds_2 l_law_ClockHolds_3 v1 v2 v7 v9 v12 v13 v14 v66 v67 v68 H (seqK (fun T H => l_law_ClockHolds_1 (get T 1) (get T 2) (get T 7) (get T 9) (get T 12) (get T 13) (get T 14) (get T 66) (get T 67) (get T 68) H k) k) := ((loopL_next (by kernel_rfl) rfl H k).trans (s_law_ClockHolds_b1_eq stdL CC limLP v1 v2 v7 v9 v12 v13 v14 v66 v67 v68 H _)).trans (by kernel_rfl)
theorem r_law_ClockHolds_2 (v1 : Value) (v2 : Value) (v7 : Value) (v9 : Value) (v12 : Value) (v13 : Value) (v14 : Value) (v66 : Value) (v67 : Value) (v68 : Value) (v106 : Value) (v107 : Value) (v108 : Value) (H : AHeap) (k : K) : l_law_ClockHolds_2 v1 v2 v7 v9 v12 v13 v14 v66 v67 v68 v106 v107 v108 H k = s_law_ClockHolds_b2 guardK condL shareL Try.prog CC l_law_ClockHolds_0 l_law_ClockHolds_1 l_law_ClockHolds_2 l_law_ClockHolds_3 v1 v2 v7 v9 v12 v13 v14 v66 v67 v68 v106 v107 v108 H (seqK (fun T H => l_law_ClockHolds_2 (get T 1) (get T 2) (get T 7) (get T 9) (get T 12) (get T 13) (get T 14) (get T 66) (get T 67) (get T 68) (get T 106) (get T 107) (get T 108) H k) k) := ((loopL_next (by kernel_rfl) rfl H k).trans (s_law_ClockHolds_b2_eq stdL CC limLP v1 v2 v7 v9 v12 v13 v14 v66 v67 v68 v106 v107 v108 H _)).trans (by kernel_rfl)
theorem r_law_ClockHolds_3 (v1 : Value) (v2 : Value) (v7 : Value) (v9 : Value) (v12 : Value) (v13 : Value) (v14 : Value) (v66 : Value) (v67 : Value) (v68 : Value) (v146 : Value) (v147 : Value) (v148 : Value) (H : AHeap) (k : K) : l_law_ClockHolds_3 v1 v2 v7 v9 v12 v13 v14 v66 v67 v68 v146 v147 v148 H k = s_law_ClockHolds_b3 guardK condL shareL Try.prog CC l_law_ClockHolds_0 l_law_ClockHolds_1 l_law_ClockHolds_2 l_law_ClockHolds_3 v1 v2 v7 v9 v12 v13 v14 v66 v67 v68 v146 v147 v148 H (seqK (fun T H => l_law_ClockHolds_3 (get T 1) (get T 2) (get T 7) (get T 9) (get T 12) (get T 13) (get T 14) (get T 66) (get T 67) (get T 68) (get T 146) (get T 147) (get T 148) H k) k) := ((loopL_next (by kernel_rfl) rfl H k).trans (s_law_ClockHolds_b3_eq stdL CC limLP v1 v2 v7 v9 v12 v13 v14 v66 v67 v68 v146 v147 v148 H _)).trans (by kernel_rfl)
theorem d_law_ClockHolds (a0 : Value) (a1 : Value) (a2 : Value) (H : AHeap) {r : Value × AHeap} (h : s_law_ClockHolds guardK condL shareL Try.prog CC l_law_ClockHolds_0 l_law_ClockHolds_1 l_law_ClockHolds_2 l_law_ClockHolds_3 a0 a1 a2 H (endK Try.prog [.tmp 6]) = some r) : CC F.law_ClockHolds [a0, a1, a2] H = some (tidy H r) := D_body (by kernel_rfl) ((s_law_ClockHolds_eq stdL CC limLP a0 a1 a2 H).trans (Eq.trans (show s_law_ClockHolds stdL.b.g stdL.c stdL.s Try.prog CC (fun v1 v2 v7 v9 v47 v48 v49 H k => loopL stdL Try.prog hints CC limLP F.law_ClockHolds 0 [(1, v1), (2, v2), (7, v7), (9, v9), (47, v47), (48, v48), (49, v49)] H k) (fun v1 v2 v7 v9 v12 v13 v14 v66 v67 v68 H k => loopL stdL Try.prog hints CC limLP F.law_ClockHolds 1 [(1, v1), (2, v2), (7, v7), (9, v9), (12, v12), (13, v13), (14, v14), (66, v66), (67, v67), (68, v68)] H k) (fun v1 v2 v7 v9 v12 v13 v14 v66 v67 v68 v106 v107 v108 H k => loopL stdL Try.prog hints CC limLP F.law_ClockHolds 2 [(1, v1), (2, v2), (7, v7), (9, v9), (12, v12), (13, v13), (14, v14), (66, v66), (67, v67), (68, v68), (106, v106), (107, v107), (108, v108)] H k) (fun v1 v2 v7 v9 v12 v13 v14 v66 v67 v68 v146 v147 v148 H k => loopL stdL Try.prog hints CC limLP F.law_ClockHolds 3 [(1, v1), (2, v2), (7, v7), (9, v9), (12, v12), (13, v13), (14, v14), (66, v66), (67, v67), (68, v68), (146, v146), (147, v147), (148, v148)] H k) a0 a1 a2 H (endK Try.prog [.tmp 6]) = s_law_ClockHolds guardK condL shareL Try.prog CC l_law_ClockHolds_0 l_law_ClockHolds_1 l_law_ClockHolds_2 l_law_ClockHolds_3 a0 a1 a2 H (endK Try.prog [.tmp 6]) by kernel_rfl) h))

end Go.Proofs.Ytldgonjihhndgaa

/-
  Chapter 02: the loops of ClockHolds.
  Conditions: none. By an AI agent.
-/
set_option maxRecDepth 10000
set_option linter.unusedSimpArgs false
set_option linter.unusedVariables false
namespace Go.Proofs.Ytldgonjihhndgaa
open Go Eng

/-- All alarms were set: the ID is the index of the tick. -/
def Good (ats : List Int) (i : Nat) (l : List Al) : Prop := ∀ a, a ∈ l → ∃ j : Nat, j < i ∧ ∃ h : j < ats.length, a = ⟨(j : Int), ats[j]⟩
theorem Good.id {ats : List Int} {i : Nat} {l : List Al} (h : Good ats i l) {a : Al} (ha : a ∈ l) : 0 ≤ a.id := by
  obtain ⟨j, _, _, rfl⟩ := h a ha
  show (0 : Int) ≤ (j : Int)
  omega

theorem l_sets (ats : List Int) (va vn : Value) (b : Nat) (now : Int) (Hz : AHeap) (hb : Hz.n ≤ b) (hr : Rd EI Hz va ats) (h40 : ats.length ≤ 40) :
    ∀ (x : List Int) (i : Nat) (H : AHeap) (l : List Al), ats.drop i = x → i ≤ ats.length → Ok H → Still Hz H → Clk H b now l → Srt l → Good ats i l → l.length ≤ i →
    ∃ l' H', Ok H' ∧ Still Hz H' ∧ Clk H' b now l' ∧ Srt l' ∧ Good ats ats.length l' ∧ l'.length ≤ 40 ∧
      ∀ K : K, l_law_ClockHolds_0 va vn (.pointer (some ⟨b, 0, none⟩)) (.int .i64 (l.length : Int)) va (.int .i64 (ats.length : Int)) (.int .i64 (i : Int)) H (blkK [1, 2, 7, 9] 0 K) = K .normal [(1, va), (2, vn), (7, .pointer (some ⟨b, 0, none⟩)), (9, .int .i64 (l'.length : Int))] H'
  | [], i, H, l, hx, hi, ok, hs, c, srt, g, hl => by
    have h : ats.length ≤ i := List.drop_eq_nil_iff.1 hx
    have hlt : ¬ (i : Int) < (ats.length : Int) := by omega
    have e : i = ats.length := by omega
    refine ⟨l, H, ok, hs, c, srt, e ▸ g, by omega, fun K => ?_⟩
    rw [r_law_ClockHolds_0]
    simp (disch := first | with_reducible rfl | assumption | omega | rfl | (simp only [go_sem]; first | done | omega)) only [go_sem, ↓reduceIte, reduceCtorEq, Nat.reduceEqDiff, Nat.reduceAdd, Nat.reduceSub, Nat.reduceMul, Nat.reduceDiv, Nat.reduceMod, Nat.reduceLeDiff, Nat.reduceLT, Nat.reduceBEq, Int.reduceEq, Int.reduceBEq, Int.reduceBNe, Int.reduceLT, Int.reduceLE, Int.reduceAdd, Int.reduceSub, Int.reduceNeg, Int.reduceToNat, Int.reducePow, Nat.reducePow, Int.reduceMul, Int.reduceDiv, ↓s_law_ClockHolds_b0, hlt]
  | a :: x, i, H, l, hx, hi, ok, hs, c, srt, g, hl => by
    obtain ⟨h, hxa, hx'⟩ := drop_cons hx
    have hlt : (i : Int) < (ats.length : Int) := by omega
    obtain ⟨b1, o1, hix, hb1, hc1, _⟩ := (hr.still hs).ix (q := .i64) h
    rw [hxa] at hc1
    have hix : ixS 1 va (.int .i64 i) = some (.pointer (some ⟨b1, o1, none⟩)) := hix
    have hck : cellB (H.f b1) o1 = some (.int .i64 a) := cutB_cell hc1 (i := 0) (by decide)
    obtain ⟨H1, hset, c1, fr1⟩ := q_setE b now i a l H ok c srt (by omega)
    have hlen := len_setE l i a
    have g1 : Good ats (i + 1) (setE l i a).2 := by
      intro y hy
      rcases mem_setE hy with hy | ⟨rfl, _⟩
      · obtain ⟨j, hj, hj2, e⟩ := g y hy
        exact ⟨j, by omega, hj2, e⟩
      · exact ⟨i, by omega, h, by rw [hxa]⟩
    obtain ⟨l', H', r1, r2, r3, r4, r5, r6, ih⟩ := l_sets ats va vn b now Hz hb hr h40 x (i + 1) H1 _ hx' h (ok.fr fr1) (hs.then fr1 fun d hd h => by omega) c1 (srt_setE srt i a) g1 (by rw [hlen]; split <;> omega)
    refine ⟨l', H', r1, r2, r3, r4, r5, r6, fun K => ?_⟩
    have ih := ih K
    rw [Int.natCast_add, hlen] at ih
    rw [r_law_ClockHolds_0]
    by_cases he : (setE l i a).1 = 0
    · rw [if_pos he, Int.natCast_add] at ih
      rw [he] at hset
      simp (disch := first | with_reducible rfl | assumption | omega | rfl | (simp only [go_sem]; first | done | omega)) only [go_sem, ↓reduceIte, reduceCtorEq, Nat.reduceEqDiff, Nat.reduceAdd, Nat.reduceSub, Nat.reduceMul, Nat.reduceDiv, Nat.reduceMod, Nat.reduceLeDiff, Nat.reduceLT, Nat.reduceBEq, Int.reduceEq, Int.reduceBEq, Int.reduceBNe, Int.reduceLT, Int.reduceLE, Int.reduceAdd, Int.reduceSub, Int.reduceNeg, Int.reduceToNat, Int.reducePow, Nat.reducePow, Int.reduceMul, Int.reduceDiv, ↓s_law_ClockHolds_b0, hlt, hix, hck, enterK_eq hset]
      exact ih
    · rw [if_neg he] at ih
      generalize (setE l i a).1 = e at hset he
      simp (disch := first | with_reducible rfl | assumption | omega | rfl | (simp only [go_sem]; first | done | omega)) only [go_sem, ↓reduceIte, reduceCtorEq, Nat.reduceEqDiff, Nat.reduceAdd, Nat.reduceSub, Nat.reduceMul, Nat.reduceDiv, Nat.reduceMod, Nat.reduceLeDiff, Nat.reduceLT, Nat.reduceBEq, Int.reduceEq, Int.reduceBEq, Int.reduceBNe, Int.reduceLT, Int.reduceLE, Int.reduceAdd, Int.reduceSub, Int.reduceNeg, Int.reduceToNat, Int.reducePow, Nat.reducePow, Int.reduceMul, Int.reduceDiv, ↓s_law_ClockHolds_b0, hlt, hix, hck, enterK_eq hset, decide_eq_false he]
      exact ih

theorem l_due (ats : List Int) (va w2 w9 w12 w13 w14 w66 w67 w68 vt : Value) (b : Nat) (now : Int) (rest t : List Al) (Hy : AHeap) (hra : Rd EI Hy va ats) (hrt : Rd EAl Hy vt t) (c : Clk Hy b now rest) (h40 : ats.length ≤ 40) (ht : t.length ≤ 40)
    (good : ∀ a, a ∈ t → (a.tm ≤ now ∧ a.tm < 4611686018427387904) ∧ ∃ j : Nat, ∃ h : j < ats.length, a = ⟨(j : Int), ats[j]⟩) :
    ∀ (x : List Al) (i : Nat) (H : AHeap), t.drop i = x → i ≤ t.length → Still Hy H → ∃ H', Still Hy H' ∧
      ∀ K : K, l_law_ClockHolds_2 va w2 (.pointer (some ⟨b, 0, none⟩)) w9 w12 w13 w14 w66 w67 w68 vt (.int .i64 (t.length : Int)) (.int .i64 (i : Int)) H (blkK [1, 2, 7, 9, 12, 13, 14, 66, 67, 68] 4 K) = K .normal [(1, va), (2, w2), (7, .pointer (some ⟨b, 0, none⟩)), (9, w9), (12, w12), (13, w13), (14, w14), (66, w66), (67, w67), (68, w68)] H'
  | [], i, H, hx, hi, hs => by
    have h : t.length ≤ i := List.drop_eq_nil_iff.1 hx
    have hlt : ¬ (i : Int) < (t.length : Int) := by omega
    refine ⟨H, hs, fun K => ?_⟩
    rw [r_law_ClockHolds_2]
    simp (disch := first | with_reducible rfl | assumption | omega | rfl | (simp only [go_sem]; first | done | omega)) only [go_sem, ↓reduceIte, reduceCtorEq, Nat.reduceEqDiff, Nat.reduceAdd, Nat.reduceSub, Nat.reduceMul, Nat.reduceDiv, Nat.reduceMod, Nat.reduceLeDiff, Nat.reduceLT, Nat.reduceBEq, Int.reduceEq, Int.reduceBEq, Int.reduceBNe, Int.reduceLT, Int.reduceLE, Int.reduceAdd, Int.reduceSub, Int.reduceNeg, Int.reduceToNat, Int.reducePow, Nat.reducePow, Int.reduceMul, Int.reduceDiv, ↓s_law_ClockHolds_b2, hlt]
  | a :: x, i, H, hx, hi, hs => by
    obtain ⟨h, hxa, hx'⟩ := drop_cons hx
    have hlt : (i : Int) < (t.length : Int) := by omega
    obtain ⟨b1, o1, hix, hb1, hc1, _⟩ := (hrt.still hs).ix (q := .i64) h
    rw [hxa] at hc1
    have hix : ixS 2 vt (.int .i64 i) = some (.pointer (some ⟨b1, o1, none⟩)) := hix
    have hc1 : cutB (H.f b1) o1 2 = some [.int .i64 a.id, .int .i64 a.tm] := hc1
    obtain ⟨⟨g1, g2⟩, j, hj, ea⟩ := good a (by rw [← hxa]; exact List.getElem_mem h)
    generalize hH1 : (H.push (.cells [.int .i64 0, .int .i64 0] T.api_Alarm true)).set H.n (.cells [.int .i64 a.id, .int .i64 a.tm] T.api_Alarm true) = H1
    have s1 : Still H H1 := by rw [← hH1]; exact Fr.set ((Fr.refl H).push _) _ _ (fun h => by omega)
    have f1 : H1.f H.n = .cells [.int .i64 a.id, .int .i64 a.tm] T.api_Alarm true := by rw [← hH1]; exact set_f_eq
    have hs1 : Still Hy H1 := hs.still.then s1 fun _ _ h => h
    have hnow := q_Now b now rest H1 (c.still hs1)
    obtain ⟨b2, o2, hix2, hb2, hc2, _⟩ := (hra.still hs1).ix (q := .i64) hj
    have hix2 : ixS 1 va (.int .i64 (j : Int)) = some (.pointer (some ⟨b2, o2, none⟩)) := hix2
    have hck2 : cellB (H1.f b2) o2 = some (.int .i64 ats[j]) := cutB_cell hc2 (i := 0) (by decide)
    have hlena := (hra.still hs1).lenS
    have e1 : a.id = (j : Int) := by rw [ea]
    have e2 : a.tm = ats[j] := by rw [ea]
    rw [e1, e2] at f1 hc1 hH1
    rw [e2] at g1 g2
    have q1 : ¬ now < ats[j] := by omega
    have q2 : ¬ (4611686018427387904 : Int) ≤ ats[j] := by omega
    have q3 : ¬ (j : Int) < 0 := by omega
    have q4 : ¬ (ats.length : Int) ≤ (j : Int) := by omega
    obtain ⟨H', hs', ih⟩ := l_due ats va w2 w9 w12 w13 w14 w66 w67 w68 vt b now rest t Hy hra hrt c h40 ht good x (i + 1) H1 hx' h hs1
    refine ⟨H', hs', fun K => ?_⟩
    have ih := ih K
    rw [Int.natCast_add] at ih
    rw [r_law_ClockHolds_2]
    simp (disch := first | with_reducible rfl | assumption | omega | rfl | (simp only [go_sem]; first | done | omega)) only [go_sem, ↓reduceIte, reduceCtorEq, Nat.reduceEqDiff, Nat.reduceAdd, Nat.reduceSub, Nat.reduceMul, Nat.reduceDiv, Nat.reduceMod, Nat.reduceLeDiff, Nat.reduceLT, Nat.reduceBEq, Int.reduceEq, Int.reduceBEq, Int.reduceBNe, Int.reduceLT, Int.reduceLE, Int.reduceAdd, Int.reduceSub, Int.reduceNeg, Int.reduceToNat, Int.reducePow, Nat.reducePow, Int.reduceMul, Int.reduceDiv, ↓s_law_ClockHolds_b2, hlt, hix, hc1, hH1, f1, enterK_eq hnow, decide_eq_false q1, decide_eq_false q2, decide_eq_false q3, hlena, decide_eq_false q4, hix2, hck2]
    exact ih

theorem l_left (w1 w2 w9 w12 w13 w14 w66 w67 w68 vt : Value) (b : Nat) (now : Int) (rest t : List Al) (Hy : AHeap) (hrt : Rd EAl Hy vt t) (c : Clk Hy b now rest) (ht : t.length ≤ 40)
    (good : ∀ a, a ∈ t → ¬ (a.tm ≤ now ∧ a.tm < 4611686018427387904)) :
    ∀ (x : List Al) (i : Nat) (H : AHeap), t.drop i = x → i ≤ t.length → Still Hy H → ∃ H', Still Hy H' ∧
      ∀ K : K, l_law_ClockHolds_3 w1 w2 (.pointer (some ⟨b, 0, none⟩)) w9 w12 w13 w14 w66 w67 w68 vt (.int .i64 (t.length : Int)) (.int .i64 (i : Int)) H (blkK [1, 2, 7, 9, 12, 13, 14, 66, 67, 68] 6 K) = K .normal [(1, w1), (2, w2), (7, .pointer (some ⟨b, 0, none⟩)), (9, w9), (12, w12), (13, w13), (14, w14), (66, w66), (67, w67), (68, w68)] H'
  | [], i, H, hx, hi, hs => by
    have h : t.length ≤ i := List.drop_eq_nil_iff.1 hx
    have hlt : ¬ (i : Int) < (t.length : Int) := by omega
    refine ⟨H, hs, fun K => ?_⟩
    rw [r_law_ClockHolds_3]
    simp (disch := first | with_reducible rfl | assumption | omega | rfl | (simp only [go_sem]; first | done | omega)) only [go_sem, ↓reduceIte, reduceCtorEq, Nat.reduceEqDiff, Nat.reduceAdd, Nat.reduceSub, Nat.reduceMul, Nat.reduceDiv, Nat.reduceMod, Nat.reduceLeDiff, Nat.reduceLT, Nat.reduceBEq, Int.reduceEq, Int.reduceBEq, Int.reduceBNe, Int.reduceLT, Int.reduceLE, Int.reduceAdd, Int.reduceSub, Int.reduceNeg, Int.reduceToNat, Int.reducePow, Nat.reducePow, Int.reduceMul, Int.reduceDiv, ↓s_law_ClockHolds_b3, hlt]
  | a :: x, i, H, hx, hi, hs => by
    obtain ⟨h, hxa, hx'⟩ := drop_cons hx
    have hlt : (i : Int) < (t.length : Int) := by omega
    obtain ⟨b1, o1, hix, hb1, hc1, _⟩ := (hrt.still hs).ix (q := .i64) h
    rw [hxa] at hc1
    have hix : ixS 2 vt (.int .i64 i) = some (.pointer (some ⟨b1, o1, none⟩)) := hix
    have hc1 : cutB (H.f b1) o1 2 = some [.int .i64 a.id, .int .i64 a.tm] := hc1
    have g := good a (by rw [← hxa]; exact List.getElem_mem h)
    generalize hH1 : (H.push (.cells [.int .i64 0, .int .i64 0] T.api_Alarm true)).set H.n (.cells [.int .i64 a.id, .int .i64 a.tm] T.api_Alarm true) = H1
    have s1 : Still H H1 := by rw [← hH1]; exact Fr.set ((Fr.refl H).push _) _ _ (fun h => by omega)
    have f1 : H1.f H.n = .cells [.int .i64 a.id, .int .i64 a.tm] T.api_Alarm true := by rw [← hH1]; exact set_f_eq
    have hs1 : Still Hy H1 := hs.still.then s1 fun _ _ h => h
    have hnow := q_Now b now rest H1 (c.still hs1)
    obtain ⟨H', hs', ih⟩ := l_left w1 w2 w9 w12 w13 w14 w66 w67 w68 vt b now rest t Hy hrt c ht good x (i + 1) H1 hx' h hs1
    refine ⟨H', hs', fun K => ?_⟩
    have ih := ih K
    rw [Int.natCast_add] at ih
    rw [r_law_ClockHolds_3]
    by_cases q1 : a.tm ≤ now
    · have q2 : ¬ a.tm < 4611686018427387904 := fun h => g ⟨q1, h⟩
      simp (disch := first | with_reducible rfl | assumption | omega | rfl | (simp only [go_sem]; first | done | omega)) only [go_sem, ↓reduceIte, reduceCtorEq, Nat.reduceEqDiff, Nat.reduceAdd, Nat.reduceSub, Nat.reduceMul, Nat.reduceDiv, Nat.reduceMod, Nat.reduceLeDiff, Nat.reduceLT, Nat.reduceBEq, Int.reduceEq, Int.reduceBEq, Int.reduceBNe, Int.reduceLT, Int.reduceLE, Int.reduceAdd, Int.reduceSub, Int.reduceNeg, Int.reduceToNat, Int.reducePow, Nat.reducePow, Int.reduceMul, Int.reduceDiv, ↓s_law_ClockHolds_b3, hlt, hix, hc1, hH1, f1, enterK_eq hnow, decide_eq_true q1, decide_eq_false q2]
      exact ih
    · simp (disch := first | with_reducible rfl | assumption | omega | rfl | (simp only [go_sem]; first | done | omega)) only [go_sem, ↓reduceIte, reduceCtorEq, Nat.reduceEqDiff, Nat.reduceAdd, Nat.reduceSub, Nat.reduceMul, Nat.reduceDiv, Nat.reduceMod, Nat.reduceLeDiff, Nat.reduceLT, Nat.reduceBEq, Int.reduceEq, Int.reduceBEq, Int.reduceBNe, Int.reduceLT, Int.reduceLE, Int.reduceAdd, Int.reduceSub, Int.reduceNeg, Int.reduceToNat, Int.reducePow, Nat.reducePow, Int.reduceMul, Int.reduceDiv, ↓s_law_ClockHolds_b3, hlt, hix, hc1, hH1, f1, enterK_eq hnow, decide_eq_false q1]
      exact ih

end Go.Proofs.Ytldgonjihhndgaa

/-
  The engine, part 27: a law's arguments that are slices: what they read as in the abstract heap.
  Conditions: none. By an AI agent.
-/
namespace Go.Proofs.Ytldgonjihhndgaa.Eng
open Go
set_option linter.unusedVariables false
set_option linter.unusedSimpArgs false

variable {P : Program} {W : World}

theorem cell_abs {a : Addr} {v : Value} (h : W.cell? a = some v) : ∃ cs e fr, W.heap[a.block]? = some (.cells cs e fr) ∧ cs[a.off]? = some v ∧ a.spot = none := by
  unfold World.cell? at h
  split at h
  · rename_i c e fr hw
    split at h
    · cases h
    · rename_i hs
      exact ⟨c, e, fr, hw, h, by simpa using hs⟩
  · cases h

/-- A cell that names no memory. -/
def plain : Value → Bool
  | .int _ _ | .string _ | .bool _ => true
  | _ => false

theorem conv_plain {n : Nat} {v : Value} (h : plain v = true) : conv n v = v := by
  cases v <;> first | rfl | (simp [plain] at h)

theorem absHeap_cell {a : Addr} {v : Value} (h : W.cell? a = some v) (hp : plain v = true) : a.block < W.heap.size ∧ a.spot = none ∧ cellB ((absHeap W).f a.block) a.off = some v := by
  obtain ⟨cs, e, fr, h1, h2, h3⟩ := cell_abs h
  refine ⟨by rw [Array.getElem?_eq_some_iff] at h1; exact h1.1, h3, ?_⟩
  simp only [absHeap, h1, cellB]
  rw [List.getElem?_map, Array.getElem?_toList, h2]
  simp [conv_plain hp]

theorem cutB_of_cells {k : Blk} {o n : Nat} {xs : List Value} (hl : xs.length = n) (hn : 0 < n) (h : ∀ i, i < n → cellB k (o + i) = xs[i]?) : cutB k o n = some xs := by
  cases k with
  | cells ys e rw =>
    unfold cutB
    simp only
    have hlen : o + n ≤ ys.length := by
      have := h (n - 1) (by omega)
      rw [List.getElem?_eq_getElem (by omega)] at this
      unfold cellB at this
      have := (List.getElem?_eq_some_iff.1 this).1
      omega
    rw [if_pos hlen]
    congr 1
    apply List.ext_getElem?
    intro i
    by_cases hi : i < n
    · rw [List.getElem?_take_of_lt hi, List.getElem?_drop, ← h i hi]
      rfl
    · rw [List.getElem?_eq_none (by simp; omega), List.getElem?_eq_none (by omega)]
  | _ =>
    have := h 0 hn
    rw [List.getElem?_eq_getElem (by omega)] at this
    cases this

section
variable {α : Type} {E : Enc α} {R : α → Prop} {H : Type} {enc : TypeId × Value → H}

/-- A slice of elements of plain cells reads as a list. -/
theorem open_rd {t e : TypeId} {v : Value} {d : DataW H} {p : List MemPlace} (ht : P.underlying t = some (.slice e)) (hC : P.cellsOf e = E.w)
    (dec : ∀ cs n y, DataW.trod enc P W 0 (fun _ => true) true n e cs = some y → cs.length = E.w → ∃ a, cs = E.enc a ∧ R a ∧ cs.all plain = true)
    (hval : Value.okWide P W .any 0 t v) (h : DataW.Trod enc P W 0 (fun _ => true) true t v d p) :
    ∃ l : List α, Rd E (absHeap W) (convA W.heap.size v) l ∧ (∀ a, a ∈ l → R a) ∧ l.length ≤ maxLen := by
  obtain ⟨a0, len0, cap0, rfl⟩ := Go.WideShapes.okWide_slice ht hval
  obtain ⟨fuel, hf⟩ := h
  rcases DataW.trod_slice ht hf with ⟨h0, _⟩ | ⟨a, len, cap, elems, rest, n, _, hcs, _, _, hl, hm, hlen, hel, _, _⟩
  · simp [Value.cells] at h0
    obtain ⟨rfl, rfl, rfl⟩ := h0
    exact ⟨[], .inl ⟨rfl, rfl⟩, by simp, by simp⟩
  · simp [Value.cells] at hcs
    obtain ⟨rfl, rfl, rfl⟩ := hcs
    -- the elements
    have hone : ∀ i, i < len0 → ∃ x : α, R x ∧ ∀ j, j < E.w → ∃ c, W.cell? ((a.add (i * E.w)).add j) = some c ∧ (E.enc x)[j]? = some c ∧ plain c = true := by
      intro i hi
      have h1 := hel i hi
      rw [List.getElem?_eq_getElem (by omega)] at h1
      obtain ⟨cs, hc, htr⟩ := Option.bind_eq_some_iff.1 h1
      rw [hC] at hc
      obtain ⟨_, hcl, hat⟩ := World.cells?_some hc
      obtain ⟨x, hx, hR, hpl⟩ := dec cs _ _ htr hcl
      refine ⟨x, hR, fun j hj => ?_⟩
      have hj' : j < cs.length := by omega
      refine ⟨cs[j], by rw [hat j hj, List.getElem?_eq_getElem hj'], by rw [← hx, List.getElem?_eq_getElem hj'], List.all_eq_true.1 hpl _ (List.getElem_mem _)⟩
    have hall : ∀ m, m ≤ len0 → ∃ l : List α, l.length = m ∧ (∀ x, x ∈ l → R x) ∧ ∀ i, ∀ h : i < l.length, ∀ j, j < E.w → ∃ c, W.cell? ((a.add (i * E.w)).add j) = some c ∧ (E.enc l[i])[j]? = some c ∧ plain c = true := by
      intro m
      induction m with
      | zero => intro _; exact ⟨[], rfl, by simp, by simp⟩
      | succ m ih =>
        intro hm
        obtain ⟨l, h1, h2, h3⟩ := ih (by omega)
        obtain ⟨x, hR, hx⟩ := hone m (by omega)
        refine ⟨l ++ [x], by simp [h1], fun y hy => ?_, fun i hi j hj => ?_⟩
        · rcases List.mem_append.1 hy with hy | hy
          · exact h2 y hy
          · simp at hy; subst hy; exact hR
        · by_cases hil : i < l.length
          · rw [List.getElem_append_left hil]; exact h3 i hil j hj
          · have : i = m := by simp at hi; omega
            subst this
            rw [List.getElem_append_right (by omega)]
            simp only [h1, Nat.sub_self, List.getElem_cons_zero]
            exact hx j hj
    obtain ⟨l, hll, hR, hcell⟩ := hall len0 (Nat.le_refl _)
    refine ⟨l, ?_, hR, by omega⟩
    by_cases h0 : l = []
    · subst h0
      simp at hll
      subst hll
      -- no element: the place is one all the same
      simp only [Value.okWide, ht, Cell.okWide, Cell.ok] at hval
      obtain ⟨hle, _, _, hs, row, cells, hshape, _⟩ := hval
      have hb : a.block < W.heap.size := by
        unfold World.shape? at hshape
        split at hshape
        · rename_i hw; exact (Array.getElem?_eq_some_iff.1 hw).1
        · cases hshape
      obtain ⟨b, o, s⟩ := a
      simp only at hs hb
      subst hs
      refine .inr (.inl ⟨rfl, ⟨b, o, none⟩, 2 * cap0, ?_, rfl⟩)
      simp only [convA, conv]
      rw [if_pos ⟨hb, hle⟩]
    · have hpos : 0 < l.length := List.length_pos_iff.2 h0
      obtain ⟨c0, hc0, _, hp0⟩ := hcell 0 hpos 0 E.pos
      simp only [Nat.zero_mul] at hc0
      have hadd0 : (a.add 0).add 0 = a := by simp [Addr.add]
      rw [hadd0] at hc0
      obtain ⟨hb, hs, _⟩ := absHeap_cell hc0 hp0
      obtain ⟨b, o, s⟩ := a
      simp only at hs hb
      subst hs
      have hconv : convA W.heap.size (.slice (some ⟨b, o, none⟩) len0 cap0) = .slice (some ⟨b, o, none⟩) l.length (2 * cap0) := by
        rw [hll]
        simp only [convA, conv]
        rw [if_pos ⟨hb, hl⟩]
      rw [hconv]
      refine .inr (.inr ⟨b, o, _, rfl, h0, hb, ?_⟩)
      refine cutB_of_cells (by simp) (Nat.mul_pos hpos E.pos) fun i hi => ?_
      have hw := E.pos
      have hdm : i = (i / E.w) * E.w + i % E.w := by rw [Nat.mul_comm]; exact (Nat.div_add_mod i E.w).symm
      have hmod : i % E.w < E.w := Nat.mod_lt _ hw
      have hdiv : i / E.w < l.length := Nat.div_lt_of_lt_mul (by rw [Nat.mul_comm]; exact hi)
      obtain ⟨c, hc, hec, hpc⟩ := hcell (i / E.w) hdiv (i % E.w) hmod
      have haddr : ((⟨b, o, none⟩ : Addr).add (i / E.w * E.w)).add (i % E.w) = ⟨b, o + i, none⟩ := by
        have : ∀ (x y z : Nat), ((⟨x, y, none⟩ : Addr).add z) = ⟨x, y + z, none⟩ := by
          intro x y z
          unfold Addr.add
          split
          · rename_i h; subst h; rfl
          · rfl
        rw [this, this, Nat.add_assoc, ← hdm]
      rw [haddr] at hc
      obtain ⟨_, _, habs⟩ := absHeap_cell hc hpc
      rw [habs]
      have hel2 := E.cells_elem l (i / E.w) hdiv
      have : (E.cells l)[i]? = (E.enc l[i / E.w])[i % E.w]? := by
        rw [← hel2, List.getElem?_take_of_lt hmod, List.getElem?_drop, ← hdm]
      rw [this, hec]
end

/-! ### What cells of a kind are -/
theorem dec_int {H : Type} {enc : TypeId × Value → H} {e : TypeId} {k : IntKind} (he : P.underlying e = some (.int k)) {n : Nat} {y : DataW H × List MemPlace} {c : Value} (h : DataW.trod enc P W 0 (fun _ => true) true n e [c] = some y) :
    ∃ i, c = .int k i ∧ (Lit.int k i).wf = true := by
  obtain ⟨i, h1, _, h2⟩ := DataW.trod_int he h
  exact ⟨i, (List.cons.inj h1).1, h2⟩
theorem dec_str {H : Type} {enc : TypeId × Value → H} {e : TypeId} (he : P.underlying e = some .string) {n : Nat} {y : DataW H × List MemPlace} {c : Value} (h : DataW.trod enc P W 0 (fun _ => true) true n e [c] = some y) :
    ∃ s, c = .string s ∧ s.size ≤ maxLen := by
  obtain ⟨i, h1, _, h2⟩ := DataW.trod_string he h
  exact ⟨i, (List.cons.inj h1).1, h2⟩

theorem wf_i64 {i : Int} (h : (Lit.int .i64 i).wf = true) : -9223372036854775808 ≤ i ∧ i < 9223372036854775808 := by
  simp [Lit.wf, IntKind.min, IntKind.max, IntKind.signed, IntKind.bits] at h
  omega

/-- A field of a struct of one-cell fields. -/
theorem dec_field {H : Type} {enc : TypeId × Value → H} {t : TypeId} {fs : Array Field} (ht : P.underlying t = some (.struct fs)) {n : Nat} {cs : List Value} {y : DataW H × List MemPlace} (h : DataW.trod enc P W 0 (fun _ => true) true n t cs = some y)
    {i : Nat} {f : Field} (hf : fs[i]? = some f) (ho : f.offset = i) (hc : P.cellsOf f.type = 1) {c : Value} (hci : cs[i]? = some c) :
    ∃ m z, DataW.trod enc P W 0 (fun _ => true) true m f.type [c] = some z := by
  obtain ⟨xs, m, _, _, hl, hxl, hfd⟩ := DataW.trod_struct ht h
  have h1 := hfd i f hf
  have hi : i < cs.length := (List.getElem?_eq_some_iff.1 hci).1
  have hone : (cs.drop f.offset).take (P.cellsOf f.type) = [c] := by
    rw [ho, hc, List.drop_eq_getElem_cons hi]
    have := (List.getElem?_eq_some_iff.1 hci).2
    simp [this]
  rw [hone] at h1
  have hix : i < xs.length := by rw [hxl]; exact (Array.getElem?_eq_some_iff.1 hf).1
  rw [List.getElem?_eq_getElem hix] at h1
  exact ⟨_, _, h1⟩

end Go.Proofs.Ytldgonjihhndgaa.Eng
