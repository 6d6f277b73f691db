/-
  Chapter 02: Set, Clear, Tick, Copy of a clock.
  Conditions: none. By an AI agent.
-/
import Derived.Test.YtldgonjihhndgaaF
set_option maxRecDepth 10000
set_option linter.unusedSimpArgs false
set_option linter.unusedVariables false
namespace Go.Proofs.Ytldgonjihhndgaa
open Go Eng

/-- p is where an alarm would be. -/
def Pos (l : List Al) (a : Al) (p : Nat) : Prop :=
  p ≤ l.length ∧ (∀ (i : Nat) (h : i < l.length), i < p → cmpA l[i] a < 0) ∧ (∀ (i : Nat) (h : i < l.length), p ≤ i → ¬ cmpA l[i] a < 0)

theorem q_Set_arg (b : Nat) (now id tm : Int) (l : List Al) (H : AHeap) (r : Clk H b now l) (h : ¬ (0 ≤ id ∧ isTick tm = true)) : CC F.clock_Clock_Set [.pointer (some ⟨b, 0, none⟩), .int .i64 id, .int .i64 tm] H = some (.int .i64 2, H) := by
  obtain ⟨v, h1, h2, h3, h4⟩ := r
  by_cases hid : id < 0
  · apply pure_of _ (d_clock_Clock_Set _ _ _ H) rfl
    rotate_left 2
    · simp (disch := first | with_reducible rfl | assumption | omega | rfl | (simp only [go_sem]; first | done | omega)) only [go_sem, ↓reduceIte, reduceCtorEq, Nat.reduceEqDiff, Nat.reduceAdd, Nat.reduceSub, Nat.reduceMul, Nat.reduceDiv, Nat.reduceMod, Nat.reduceLeDiff, Nat.reduceLT, Nat.reduceBEq, Int.reduceEq, Int.reduceBEq, Int.reduceBNe, Int.reduceLT, Int.reduceLE, Int.reduceAdd, Int.reduceSub, Int.reduceNeg, Int.reduceToNat, Int.reducePow, Nat.reducePow, Int.reduceMul, Int.reduceDiv, ↓s_clock_Clock_Set, enterK_eq (q_zero b true _ _ H h1), hid]
      rfl
    · (repeat (first | exact Fr.refl _ | refine Fr.push ?_ _ | refine Fr.set ?_ _ _ (by intro h; simp only [go_sem] at h; omega)))
  · have ht : isTick tm = false := by
      cases hq : isTick tm with
      | false => rfl
      | true => exact absurd ⟨by omega, hq⟩ h
    apply pure_of _ (d_clock_Clock_Set _ _ _ H) rfl
    rotate_left 2
    · simp (disch := first | with_reducible rfl | assumption | omega | rfl | (simp only [go_sem]; first | done | omega)) only [go_sem, ↓reduceIte, reduceCtorEq, Nat.reduceEqDiff, Nat.reduceAdd, Nat.reduceSub, Nat.reduceMul, Nat.reduceDiv, Nat.reduceMod, Nat.reduceLeDiff, Nat.reduceLT, Nat.reduceBEq, Int.reduceEq, Int.reduceBEq, Int.reduceBNe, Int.reduceLT, Int.reduceLE, Int.reduceAdd, Int.reduceSub, Int.reduceNeg, Int.reduceToNat, Int.reducePow, Nat.reducePow, Int.reduceMul, Int.reduceDiv, ↓s_clock_Clock_Set, enterK_eq (q_zero b true _ _ H h1), hid, e_clock_tick, ht]
      rfl
    · (repeat (first | exact Fr.refl _ | refine Fr.push ?_ _ | refine Fr.set ?_ _ _ (by intro h; simp only [go_sem] at h; omega)))

theorem q_Set_busy (b : Nat) (now id tm : Int) (l : List Al) (H : AHeap) (r : Clk H b now l) (hl : l.length < 4611686018427387904) (hid : 0 ≤ id) (ht : isTick tm = true) (hf : 0 ≤ idxFrom id l 0) : CC F.clock_Clock_Set [.pointer (some ⟨b, 0, none⟩), .int .i64 id, .int .i64 tm] H = some (.int .i64 11, H) := by
  have hfd := q_find b now l id H r hl
  obtain ⟨v, h1, h2, h3, h4⟩ := r
  have hid' : ¬ id < 0 := by omega
  apply pure_of _ (d_clock_Clock_Set _ _ _ H) rfl
  rotate_left 2
  · simp (disch := first | with_reducible rfl | assumption | omega | rfl | (simp only [go_sem]; first | done | omega)) only [go_sem, ↓reduceIte, reduceCtorEq, Nat.reduceEqDiff, Nat.reduceAdd, Nat.reduceSub, Nat.reduceMul, Nat.reduceDiv, Nat.reduceMod, Nat.reduceLeDiff, Nat.reduceLT, Nat.reduceBEq, Int.reduceEq, Int.reduceBEq, Int.reduceBNe, Int.reduceLT, Int.reduceLE, Int.reduceAdd, Int.reduceSub, Int.reduceNeg, Int.reduceToNat, Int.reducePow, Nat.reducePow, Int.reduceMul, Int.reduceDiv, ↓s_clock_Clock_Set, enterK_eq (q_zero b true _ _ H h1), hid', e_clock_tick, ht, enterK_eq hfd, hf]
    rfl
  · (repeat (first | exact Fr.refl _ | refine Fr.push ?_ _ | refine Fr.set ?_ _ _ (by intro h; simp only [go_sem] at h; omega)))

theorem q_Set_full (b : Nat) (now id tm : Int) (l : List Al) (H : AHeap) (r : Clk H b now l) (hl : l.length < 4611686018427387904) (hid : 0 ≤ id) (ht : isTick tm = true) (hf : ¬ 0 ≤ idxFrom id l 0) (hfull : 4096 ≤ (l.length : Int)) : CC F.clock_Clock_Set [.pointer (some ⟨b, 0, none⟩), .int .i64 id, .int .i64 tm] H = some (.int .i64 7, H) := by
  have hfd := q_find b now l id H r hl
  obtain ⟨v, h1, h2, h3, h4⟩ := r
  have hid' : ¬ id < 0 := by omega
  have hlen := h3.rd.lenS
  apply pure_of _ (d_clock_Clock_Set _ _ _ H) rfl
  rotate_left 2
  · simp (disch := first | with_reducible rfl | assumption | omega | rfl | (simp only [go_sem]; first | done | omega)) only [go_sem, ↓reduceIte, reduceCtorEq, Nat.reduceEqDiff, Nat.reduceAdd, Nat.reduceSub, Nat.reduceMul, Nat.reduceDiv, Nat.reduceMod, Nat.reduceLeDiff, Nat.reduceLT, Nat.reduceBEq, Int.reduceEq, Int.reduceBEq, Int.reduceBNe, Int.reduceLT, Int.reduceLE, Int.reduceAdd, Int.reduceSub, Int.reduceNeg, Int.reduceToNat, Int.reducePow, Nat.reducePow, Int.reduceMul, Int.reduceDiv, ↓s_clock_Clock_Set, enterK_eq (q_zero b true _ _ H h1), hid', e_clock_tick, ht, enterK_eq hfd, hf, h1, hlen, hfull]
    rfl
  · (repeat (first | exact Fr.refl _ | refine Fr.push ?_ _ | refine Fr.set ?_ _ _ (by intro h; simp only [go_sem] at h; omega)))

theorem q_Set (b : Nat) (now id tm : Int) (l : List Al) (H : AHeap) (ok : Ok H) (r : Clk H b now l) (hid : 0 ≤ id) (ht : isTick tm = true) (hf : ¬ 0 ≤ idxFrom id l 0) (hfull : ¬ 4096 ≤ (l.length : Int)) (p : Nat) (hp : Pos l ⟨id, tm⟩ p) :
    ∃ H', CC F.clock_Clock_Set [.pointer (some ⟨b, 0, none⟩), .int .i64 id, .int .i64 tm] H = some (.int .i64 0, H') ∧ Clk H' b now (l.take p ++ ⟨id, tm⟩ :: l.drop p) ∧ Fr (fun x => x = b) H H' := by
  have hfd := q_find b now l id H r (by omega)
  obtain ⟨v, h1, h2, h3, h4⟩ := r
  obtain ⟨hp0, hp1, hp2⟩ := hp
  have hid' : ¬ id < 0 := by omega
  have hlen := h3.rd.lenS
  generalize hH1 : (H.push (.cells [.int .i64 0, .int .i64 0] T.clock_alarm true)).set H.n (.cells [.int .i64 id, .int .i64 tm] T.clock_alarm true) = H1
  have s1 : Still H H1 := by
    rw [← hH1]
    exact ((Fr.refl H).push _).set _ _ (fun h => by omega)
  have n1 : H1.n = H.n + 1 := by rw [← hH1]; rfl
  have f1 : H1.f H.n = .cells [.int .i64 id, .int .i64 tm] T.clock_alarm true := by rw [← hH1]; exact set_f_eq
  obtain ⟨is, hbs⟩ := q_bs l v ⟨id, tm⟩ H1 (h3.rd.still s1) (by omega) p hp0 hp1 hp2
  have hbs : CC F.slices_BinarySearchFunc_alarm [v, .agg #[.int .i64 id, .int .i64 tm], .func (.func F.clock_alarm_compare) #[] #[]] H1 = some (.tuple #[.int .i64 p, .bool is], H1) := hbs
  obtain ⟨v5, H2, hcl, ho5, s2, hn5⟩ := q_clone l v H1 (h3.rd.still s1) (by omega)
  have n2 : H1.n ≤ H2.n := s2.n
  have hver : H2.ver H.n = H1.ver H.n := s2.ver (by omega) (fun h => h)
  have f2 : H2.f H.n = .cells [.int .i64 id, .int .i64 tm] T.clock_alarm true := by rw [s2.f (by omega) (fun h => h), f1]
  have fb1 : H1.f b = .cells [.bool true, .int .i64 now, v] T.clock_Clock true := by rw [s1.f h2 (fun h => h), h1]
  have fb2 : H2.f b = .cells [.bool true, .int .i64 now, v] T.clock_Clock true := by rw [s2.f (by omega) (fun h => h), s1.f h2 (fun h => h), h1]
  generalize hH3 : H2.push (.cells [.int .i64 id, .int .i64 tm] T.clock_alarm true) = H3
  have s3 : Still H2 H3 := by rw [← hH3]; exact (Fr.refl H2).push _
  have f3 : H3.f H2.n = .cells [.int .i64 id, .int .i64 tm] T.clock_alarm true := by rw [← hH3]; exact push_f_eq rfl
  have n3 : H3.n = H2.n + 1 := by rw [← hH3]; rfl
  have hne5 : blockOf v5 ≠ some H2.n := fun h => by have := ho5.blk h; omega
  obtain ⟨v6, H4, hins, ho6, fr4, hb6⟩ := q_insert l v5 ⟨id, tm⟩ H2.n p H3 (ho5.still s3) (by omega) hp0 (by omega) f3 hne5
  have hins : CC F.slices_Insert_alarm [v5, .int .i64 p, .slice (some ⟨H2.n, 0, none⟩) 1 2] H3 = some (v6, H4) := hins
  have fb3 : H3.f b = .cells [.bool true, .int .i64 now, v] T.clock_Clock true := by rw [s3.f (by omega) (fun h => h), fb2]
  have hb5 : blockOf v5 ≠ some b := fun h => by have := hn5 b h; omega
  have hone6 : one v6 = true := ho6.cell
  have fb4 : H4.f b = .cells [.bool true, .int .i64 now, v] T.clock_Clock true := by rw [fr4.f (by omega) hb5, fb3]
  have n4 : H3.n ≤ H4.n := fr4.n
  generalize hH5 : H4.set b (.cells [.bool true, .int .i64 now, v6] T.clock_Clock true) = H5
  have f5 : Fr (fun x => x = b) H H5 := by
    rw [← hH5]
    refine Fr.set ?_ b _ (fun _ => rfl)
    exact ((((s1.then s2 fun _ _ h => h).then s3 fun _ _ h => h).then fr4 fun c hc h => by have := hn5 c h; omega).mono fun _ _ h => h.elim)
  refine ⟨H5, (d_clock_Clock_Set _ _ _ H (r := (.int .i64 0, H5)) ?_).trans (congrArg some (tidy_turned h2 (ok b) ?_)), ?_, f5⟩
  · simp (disch := first | with_reducible rfl | assumption | omega | rfl | (simp only [go_sem]; first | done | omega)) only [go_sem, ↓reduceIte, reduceCtorEq, Nat.reduceEqDiff, Nat.reduceAdd, Nat.reduceSub, Nat.reduceMul, Nat.reduceDiv, Nat.reduceMod, Nat.reduceLeDiff, Nat.reduceLT, Nat.reduceBEq, Int.reduceEq, Int.reduceBEq, Int.reduceBNe, Int.reduceLT, Int.reduceLE, Int.reduceAdd, Int.reduceSub, Int.reduceNeg, Int.reduceToNat, Int.reducePow, Nat.reducePow, Int.reduceMul, Int.reduceDiv, ↓s_clock_Clock_Set, enterK_eq (q_zero b true _ _ H h1), hid', e_clock_tick, ht, enterK_eq hfd, hf, h1, hlen, hfull, hH1, f1, fb1, enterK_eq hbs, enterK_eq hcl, f2, hH3, enterK_eq hins, fb4, hH5]
  · rw [← hH5, set_v_eq]
    exact Nat.le_trans s1.clk (Nat.le_trans s2.clk (Nat.le_trans s3.clk fr4.clk))
  · refine ⟨v6, by rw [← hH5]; exact set_f_eq, by rw [← hH5]; simp; omega, ?_, ?_⟩
    · rw [← hH5]
      refine ho6.keep (S := fun x => x = b) (Fr.set (Fr.refl H4) b _ fun _ => rfl) ?_
      intro c hc h
      subst h
      rcases hb6 with h' | ⟨x, h', hx⟩
      · rw [h'] at hc; exact hb5 hc
      · rw [h'] at hc; cases hc; omega
    · intro h
      rcases hb6 with h' | ⟨x, h', hx⟩
      · rw [h'] at h; exact hb5 h
      · rw [h'] at h; cases h; omega

theorem q_Clear_none (b : Nat) (now id : Int) (l : List Al) (H : AHeap) (r : Clk H b now l) (hl : l.length < 4611686018427387904) (hf : idxFrom id l 0 < 0) : CC F.clock_Clock_Clear [.pointer (some ⟨b, 0, none⟩), .int .i64 id] H = some (.int .i64 9, H) := by
  have hfd := q_find b now l id H r hl
  obtain ⟨v, h1, h2, h3, h4⟩ := r
  apply pure_of _ (d_clock_Clock_Clear _ _ H) rfl
  rotate_left 2
  · simp (disch := first | with_reducible rfl | assumption | omega | rfl | (simp only [go_sem]; first | done | omega)) only [go_sem, ↓reduceIte, reduceCtorEq, Nat.reduceEqDiff, Nat.reduceAdd, Nat.reduceSub, Nat.reduceMul, Nat.reduceDiv, Nat.reduceMod, Nat.reduceLeDiff, Nat.reduceLT, Nat.reduceBEq, Int.reduceEq, Int.reduceBEq, Int.reduceBNe, Int.reduceLT, Int.reduceLE, Int.reduceAdd, Int.reduceSub, Int.reduceNeg, Int.reduceToNat, Int.reducePow, Nat.reducePow, Int.reduceMul, Int.reduceDiv, ↓s_clock_Clock_Clear, enterK_eq (q_zero b true _ _ H h1), enterK_eq hfd, hf]
    rfl
  · (repeat (first | exact Fr.refl _ | refine Fr.push ?_ _ | refine Fr.set ?_ _ _ (by intro h; simp only [go_sem] at h; omega)))

theorem q_Clear (b : Nat) (now id : Int) (l : List Al) (H : AHeap) (ok : Ok H) (r : Clk H b now l) (hl : l.length ≤ 8796093022206) (i : Nat) (hi : i < l.length) (hf : idxFrom id l 0 = i) :
    ∃ H', CC F.clock_Clock_Clear [.pointer (some ⟨b, 0, none⟩), .int .i64 id] H = some (.int .i64 0, H') ∧ Clk H' b now (l.take i ++ l.drop (i + 1)) ∧ Fr (fun x => x = b) H H' := by
  have hfd := q_find b now l id H r (by omega)
  rw [hf] at hfd
  obtain ⟨v, h1, h2, h3, h4⟩ := r
  have hneg : ¬ (i : Int) < 0 := by omega
  obtain ⟨v5, H2, hcl, ho5, s2, hn5⟩ := q_clone l v H h3.rd (by omega)
  have n2 : H.n ≤ H2.n := s2.n
  have fb2 : H2.f b = .cells [.bool true, .int .i64 now, v] T.clock_Clock true := by rw [s2.f h2 (fun h => h), h1]
  obtain ⟨v6, H4, hdel, ho6, fr4, hb6⟩ := q_delete l v5 i H2 ho5 (by omega) hi
  have hone6 : one v6 = true := ho6.cell
  have hb5 : blockOf v5 ≠ some b := fun h => by have := hn5 b h; omega
  have fb4 : H4.f b = .cells [.bool true, .int .i64 now, v] T.clock_Clock true := by rw [fr4.f (by omega) hb5, fb2]
  have n4 : H2.n ≤ H4.n := fr4.n
  generalize hH5 : H4.set b (.cells [.bool true, .int .i64 now, v6] T.clock_Clock true) = H5
  have f5 : Fr (fun x => x = b) H H5 := by
    rw [← hH5]
    refine Fr.set ?_ b _ (fun _ => rfl)
    exact ((s2.then fr4 fun c hc h => by have := hn5 c h; omega).mono fun _ _ h => h.elim)
  refine ⟨H5, (d_clock_Clock_Clear _ _ H (r := (.int .i64 0, H5)) ?_).trans (congrArg some (tidy_turned h2 (ok b) ?_)), ?_, f5⟩
  · simp (disch := first | with_reducible rfl | assumption | omega | rfl | (simp only [go_sem]; first | done | omega)) only [go_sem, ↓reduceIte, reduceCtorEq, Nat.reduceEqDiff, Nat.reduceAdd, Nat.reduceSub, Nat.reduceMul, Nat.reduceDiv, Nat.reduceMod, Nat.reduceLeDiff, Nat.reduceLT, Nat.reduceBEq, Int.reduceEq, Int.reduceBEq, Int.reduceBNe, Int.reduceLT, Int.reduceLE, Int.reduceAdd, Int.reduceSub, Int.reduceNeg, Int.reduceToNat, Int.reducePow, Nat.reducePow, Int.reduceMul, Int.reduceDiv, ↓s_clock_Clock_Clear, enterK_eq (q_zero b true _ _ H h1), enterK_eq hfd, hneg, h1, enterK_eq hcl, enterK_eq hdel, fb4, hH5]
  · rw [← hH5, set_v_eq]
    exact Nat.le_trans s2.clk fr4.clk
  · refine ⟨v6, by rw [← hH5]; exact set_f_eq, by rw [← hH5]; simp; omega, ?_, by rw [hb6]; exact hb5⟩
    rw [← hH5]
    refine ho6.keep (S := fun x => x = b) (Fr.set (Fr.refl H4) b _ fun _ => rfl) ?_
    intro c hc h
    subst h
    rw [hb6] at hc
    exact hb5 hc

theorem q_Tick_bad (b : Nat) (now n : Int) (l : List Al) (H : AHeap) (r : Clk H b now l) (h : ¬ (isTick now = true ∧ 0 ≤ n)) : CC F.clock_Clock_Tick [.pointer (some ⟨b, 0, none⟩), .int .i64 n] H = some (.tuple #[.slice none 0 0, .int .i64 2], H) := by
  obtain ⟨v, h1, h2, h3, h4⟩ := r
  apply pure_of _ (d_clock_Clock_Tick _ _ H) rfl
  rotate_left 2
  · simp (disch := first | with_reducible rfl | assumption | omega | rfl | (simp only [go_sem]; first | done | omega)) only [go_sem, ↓reduceIte, reduceCtorEq, Nat.reduceEqDiff, Nat.reduceAdd, Nat.reduceSub, Nat.reduceMul, Nat.reduceDiv, Nat.reduceMod, Nat.reduceLeDiff, Nat.reduceLT, Nat.reduceBEq, Int.reduceEq, Int.reduceBEq, Int.reduceBNe, Int.reduceLT, Int.reduceLE, Int.reduceAdd, Int.reduceSub, Int.reduceNeg, Int.reduceToNat, Int.reducePow, Nat.reducePow, Int.reduceMul, Int.reduceDiv, ↓s_clock_Clock_Tick, enterK_eq (q_zero b true _ _ H h1), h1, enterK_eq (q_clock_Due_bad now n H h)]
    rfl
  · (repeat (first | exact Fr.refl _ | refine Fr.push ?_ _ | refine Fr.set ?_ _ _ (by intro h; simp only [go_sem] at h; omega)))

theorem q_Tick (b : Nat) (now n : Int) (l : List Al) (H : AHeap) (ok : Ok H) (r : Clk H b now l) (hl : l.length ≤ 8796093022206) (ht : isTick now = true) (hn : 0 ≤ n) (p : Nat) (hp : Pos l ⟨-1, min (due now n + 1) 4611686018427387904⟩ p) :
    ∃ v' H', CC F.clock_Clock_Tick [.pointer (some ⟨b, 0, none⟩), .int .i64 n] H = some (.tuple #[v', .int .i64 0], H') ∧ Own EAl H' T.api_Alarm v' (l.take p) ∧ Clk H' b (due now n) (l.drop p) ∧ Fr (fun x => x = b) H H' ∧ New H v' := by
  obtain ⟨v, h1, h2, h3, h4⟩ := r
  obtain ⟨hp0, hp1, hp2⟩ := hp
  obtain ⟨ht1, ht2⟩ := isTick_iff.1 ht
  have hdue : 0 ≤ due now n ∧ due now n ≤ 4611686018427387904 := by unfold due; split <;> omega
  have hD := q_clock_Due now n H ht hn
  generalize due now n = nw at *
  generalize hH1 : H.set b (.cells [.bool true, .int .i64 nw, v] T.clock_Clock true) = H1
  have fr1 : Fr (fun x => x = b) H H1 := by rw [← hH1]; exact Fr.set (Fr.refl H) b _ fun _ => rfl
  have hoff : Off (fun x => x = b) v := fun c hc h => h4 (h ▸ hc)
  have f1 : H1.f b = .cells [.bool true, .int .i64 nw, v] T.clock_Clock true := by rw [← hH1]; exact set_f_eq
  have n1 : H1.n = H.n := by rw [← hH1]; rfl
  have o1 : Own EAl H1 T.clock_alarm v l := h3.keep fr1 hoff
  obtain ⟨is, hbs⟩ := q_bs l v ⟨-1, min (nw + 1) 4611686018427387904⟩ H1 o1.rd (by omega) p hp0 hp1 hp2
  have hbs : CC F.slices_BinarySearchFunc_alarm [v, .agg #[.int .i64 (-1), .int .i64 (min (nw + 1) 4611686018427387904)], .func (.func F.clock_alarm_compare) #[] #[]] H1 = some (.tuple #[.int .i64 p, .bool is], H1) := hbs
  obtain ⟨v7, e7, r7, b7⟩ := o1.front (sz := 2) (q := .i64) rfl hp0
  obtain ⟨v8, e8, o8, b8⟩ := o1.drop (sz := 2) (q := .i64) rfl hp0
  have hone8 : one v8 = true := o8.cell
  generalize hH2 : H1.set b (.cells [.bool true, .int .i64 nw, v8] T.clock_Clock true) = H2
  have fr2 : Fr (fun x => x = b) H1 H2 := by rw [← hH2]; exact Fr.set (Fr.refl H1) b _ fun _ => rfl
  have hoff7 : Off (fun x => x = b) v7 := fun c hc h => h4 (by rw [← b7, hc, h])
  have hoff8 : Off (fun x => x = b) v8 := fun c hc h => h4 (by rw [← b8, hc, h])
  obtain ⟨v', H', hout, r1, r2, r3⟩ := q_out (l.take p) v7 H2 (r7.keep fr2 hoff7) (by simp; omega)
  have f2 : H2.f b = .cells [.bool true, .int .i64 nw, v8] T.clock_Clock true := by rw [← hH2]; exact set_f_eq
  have n2 : H2.n = H1.n := by rw [← hH2]; rfl
  have fr : Fr (fun x => x = b) H H' := (fr1.trans fr2).trans r2.still
  refine ⟨v', H', (d_clock_Clock_Tick _ _ H (r := (.tuple #[v', .int .i64 0], H')) ?_).trans (congrArg some (tidy_turned h2 (ok b) ?_)), r1, ?_, fr, fun c hc => by have := r3 c hc; omega⟩
  · simp (disch := first | with_reducible rfl | assumption | omega | rfl | (simp only [go_sem]; first | done | omega)) only [go_sem, ↓reduceIte, reduceCtorEq, Nat.reduceEqDiff, Nat.reduceAdd, Nat.reduceSub, Nat.reduceMul, Nat.reduceDiv, Nat.reduceMod, Nat.reduceLeDiff, Nat.reduceLT, Nat.reduceBEq, Int.reduceEq, Int.reduceBEq, Int.reduceBNe, Int.reduceLT, Int.reduceLE, Int.reduceAdd, Int.reduceSub, Int.reduceNeg, Int.reduceToNat, Int.reducePow, Nat.reducePow, Int.reduceMul, Int.reduceDiv, ↓s_clock_Clock_Tick, enterK_eq (q_zero b true _ _ H h1), h1, enterK_eq hD, hH1, f1, enterK_eq hbs, e7, e8, hH2, enterK_eq hout]
  · have hv2 : H1.clk ≤ H2.ver b := by rw [← hH2, set_v_eq]; exact Nat.le_refl _
    rw [r2.ver (by omega) (fun h => h)]
    exact Nat.le_trans fr1.clk hv2
  · refine Clk.still ?_ r2
    exact ⟨v8, f2, by omega, o8.keep fr2 hoff8, by rw [b8]; exact h4⟩

theorem q_Copy (b : Nat) (now : Int) (l : List Al) (H : AHeap) (r : Clk H b now l) (hl : l.length ≤ 8796093022206) :
    ∃ b' H', CC F.clock_Clock_Copy [.pointer (some ⟨b, 0, none⟩)] H = some (.pointer (some ⟨b', 0, none⟩), H') ∧ Clk H' b' now l ∧ Still H H' ∧ H.n ≤ b' := by
  obtain ⟨v, h1, h2, h3, h4⟩ := r
  obtain ⟨v5, H2, hcl, ho5, s2, hn5⟩ := q_clone l v H h3.rd (by omega)
  have n2 : H.n ≤ H2.n := s2.n
  have hver : H2.ver b = H.ver b := s2.ver h2 (fun h => h)
  refine ⟨H2.n, H2.push (.cells [.bool true, .int .i64 now, v5] T.clock_Clock true), (d_clock_Clock_Copy _ H (r := (.pointer (some ⟨H2.n, 0, none⟩), _)) ?_).trans (congrArg some (tidy_mem rfl)), ?_, s2.push _, n2⟩
  · have hne5 : ∀ a n c, v5 = .slice a n c → True := fun _ _ _ _ => trivial
    obtain ⟨a, n, c, hv5⟩ : ∃ a n c, v5 = .slice a n c := by
      rcases ho5 with ⟨_, h⟩ | ⟨_, a, h, _⟩ | ⟨b, o, c, xs, h, _⟩ <;> exact ⟨_, _, _, h⟩
    subst hv5
    simp (disch := first | with_reducible rfl | assumption | omega | rfl | (simp only [go_sem]; first | done | omega)) only [go_sem, ↓reduceIte, reduceCtorEq, Nat.reduceEqDiff, Nat.reduceAdd, Nat.reduceSub, Nat.reduceMul, Nat.reduceDiv, Nat.reduceMod, Nat.reduceLeDiff, Nat.reduceLT, Nat.reduceBEq, Int.reduceEq, Int.reduceBEq, Int.reduceBNe, Int.reduceLT, Int.reduceLE, Int.reduceAdd, Int.reduceSub, Int.reduceNeg, Int.reduceToNat, Int.reducePow, Nat.reducePow, Int.reduceMul, Int.reduceDiv, ↓s_clock_Clock_Copy, enterK_eq (q_zero b true _ _ H h1), h1, enterK_eq hcl]
  · refine ⟨v5, push_f_eq rfl, by simp, ho5.still ((Fr.refl _).push _), fun h => by have := ho5.blk h; omega⟩

end Go.Proofs.Ytldgonjihhndgaa
