/-
  Chapter 02: the law ClockFulls runs to true.
  Conditions: none. By an AI agent.
-/
import Derived.Test.YtldgonjihhndgaaI
import Derived.Test.YtldgonjihhndgaaDsClockFulls
set_option maxRecDepth 10000
set_option linter.unusedSimpArgs false
set_option linter.unusedVariables false
namespace Go.Proofs.Ytldgonjihhndgaa
open Go Eng

def item (less : Int) (j : Nat) : Al := ⟨j, 100000 - less * j⟩
/-- The alarms after i calls. -/
def fullA (less : Int) : Nat → List Al
  | 0 => []
  | i + 1 => insA (fullA less i) (item less i)

theorem len_fullA (less : Int) : ∀ i, (fullA less i).length = i
  | 0 => rfl
  | i + 1 => by rw [fullA, len_insA, len_fullA less i]
theorem mem_fullA {less : Int} {x : Al} : ∀ {i : Nat}, x ∈ fullA less i ↔ ∃ j, j < i ∧ x = item less j
  | 0 => by simp [fullA]
  | i + 1 => by
    rw [fullA, mem_insA, mem_fullA (i := i)]
    constructor
    · rintro (h | ⟨j, h1, h2⟩)
      · exact ⟨i, by omega, h⟩
      · exact ⟨j, by omega, h2⟩
    · rintro ⟨j, h1, h2⟩
      by_cases h : j = i
      · subst h; exact .inl h2
      · exact .inr ⟨j, by omega, h2⟩
theorem srt_fullA (less : Int) : ∀ i, Srt (fullA less i)
  | 0 => List.Pairwise.nil
  | i + 1 => srt_insA (srt_fullA less i) fun x hx h => by
    obtain ⟨j, h1, rfl⟩ := mem_fullA.1 hx
    have := congrArg Al.id h
    simp [item] at this
    omega

theorem Ok.fr {S : Nat → Prop} {H H' : AHeap} (h : Ok H) (f : Fr S H H') : Ok H' := f.ok h

theorem mul_small {less : Int} (h : 0 ≤ less ∧ less ≤ 3) {i : Nat} (hi : i ≤ 4098) : 0 ≤ less * i ∧ less * i ≤ 12294 := by
  have : less = 0 ∨ less = 1 ∨ less = 2 ∨ less = 3 := by omega
  rcases this with rfl | rfl | rfl | rfl <;> omega

theorem l_full (less : Int) (hless : 0 ≤ less ∧ less ≤ 3) (many : Nat) (hmany : many ≤ 4098) (b : Nat) (H0 : AHeap) (hb : H0.n ≤ b) : ∀ (d i : Nat) (H : AHeap), many - i = d → i ≤ many → Clk H b 0 (fullA less (min i 4096)) → Ok H → Still H0 H →
    ∃ H', (∀ K, l_law_ClockFulls_0 (.int .i64 many) (.int .i64 less) (.pointer (some ⟨b, 0, none⟩)) (.int .i64 i) H K = K (.exit 0) [(39, .bool false), (38, .int .i64 many), (37, .int .i64 many), (0, .int .i64 many), (1, .int .i64 less), (5, .pointer (some ⟨b, 0, none⟩)), (7, .int .i64 many)] H') ∧
      Clk H' b 0 (fullA less (min many 4096)) ∧ Ok H' ∧ Still H0 H'
  | 0, i, H, hd, hi, hc, hok, hs => by
    have h : i = many := by omega
    subst h
    have hlt : ¬ (i : Int) < (i : Int) := by omega
    refine ⟨H, fun K => ?_, hc, hok, hs⟩
    rw [r_law_ClockFulls_0]
    simp (disch := first | with_reducible rfl | assumption | omega | rfl | (simp only [go_sem]; first | done | omega)) only [go_sem, ↓reduceIte, reduceCtorEq, Nat.reduceEqDiff, Nat.reduceAdd, Nat.reduceSub, Nat.reduceMul, Nat.reduceDiv, Nat.reduceMod, Nat.reduceLeDiff, Nat.reduceLT, Nat.reduceBEq, Int.reduceEq, Int.reduceBEq, Int.reduceBNe, Int.reduceLT, Int.reduceLE, Int.reduceAdd, Int.reduceSub, Int.reduceNeg, Int.reduceToNat, Int.reducePow, Nat.reducePow, Int.reduceMul, Int.reduceDiv, ↓s_law_ClockFulls_b0, hlt]
  | d + 1, i, H, hd, hi, hc, hok, hs => by
    have h : i < many := by omega
    have hlt : (i : Int) < (many : Int) := by omega
    obtain ⟨hm1, hm2⟩ := mul_small hless (i := i) (by omega)
    have hmr : -9223372036854775808 ≤ less * (i : Int) ∧ less * (i : Int) < 9223372036854775808 := by omega
    have htick : isTick (100000 - less * (i : Int)) = true := isTick_iff.2 (by omega)
    have hsr : -9223372036854775808 ≤ 100000 - less * (i : Int) ∧ 100000 - less * (i : Int) < 9223372036854775808 := by omega
    by_cases h4 : 4096 ≤ i
    · have h4' : (4096 : Int) ≤ (i : Int) := by omega
      have hmin : min i 4096 = 4096 := by omega
      have hneg : ¬ 0 ≤ idxFrom i (fullA less (min i 4096)) 0 := by
        rw [idxFrom_neg fun x hx h => ?_]
        · omega
        · obtain ⟨j, hj, rfl⟩ := mem_fullA.1 hx
          simp [item] at h
          omega
      have hset := q_Set_full b 0 i (100000 - less * (i : Int)) _ H hc (by rw [len_fullA]; omega) (by omega) htick hneg (by rw [len_fullA]; omega)
      obtain ⟨H', hloop, r1, r2, r3⟩ := l_full less hless many hmany b H0 hb d (i + 1) H (by omega) h (by rw [show min (i + 1) 4096 = min i 4096 by omega]; exact hc) hok hs
      refine ⟨H', fun K => ?_, r1, r2, r3⟩
      rw [← hloop K, r_law_ClockFulls_0]
      simp (disch := first | with_reducible rfl | assumption | omega | rfl | (simp only [go_sem]; first | done | omega)) only [go_sem, ↓reduceIte, reduceCtorEq, Nat.reduceEqDiff, Nat.reduceAdd, Nat.reduceSub, Nat.reduceMul, Nat.reduceDiv, Nat.reduceMod, Nat.reduceLeDiff, Nat.reduceLT, Nat.reduceBEq, Int.reduceEq, Int.reduceBEq, Int.reduceBNe, Int.reduceLT, Int.reduceLE, Int.reduceAdd, Int.reduceSub, Int.reduceNeg, Int.reduceToNat, Int.reducePow, Nat.reducePow, Int.reduceMul, Int.reduceDiv, ↓s_law_ClockFulls_b0, hlt, h4', enterK_eq hset]
    · have h4' : ¬ (4096 : Int) ≤ (i : Int) := by omega
      have hmin : min i 4096 = i := by omega
      rw [hmin] at hc
      have hneg : ¬ 0 ≤ idxFrom i (fullA less i) 0 := by
        rw [idxFrom_neg fun x hx h => ?_]
        · omega
        · obtain ⟨j, hj, rfl⟩ := mem_fullA.1 hx
          simp [item] at h
          omega
      obtain ⟨H1, hset, hc1, hf1⟩ := q_Set b 0 i (100000 - less * (i : Int)) _ H hok hc (by omega) htick hneg (by rw [len_fullA]; omega) _ (posA_pos (srt_fullA less i) (item less i))
      obtain ⟨H', hloop, r1, r2, r3⟩ := l_full less hless many hmany b H0 hb d (i + 1) H1 (by omega) h (by rw [show min (i + 1) 4096 = i + 1 by omega]; exact hc1) (hok.fr hf1) (hs.then hf1 fun c hc h => by omega)
      refine ⟨H', fun K => ?_, r1, r2, r3⟩
      rw [← hloop K, r_law_ClockFulls_0]
      simp (disch := first | with_reducible rfl | assumption | omega | rfl | (simp only [go_sem]; first | done | omega)) only [go_sem, ↓reduceIte, reduceCtorEq, Nat.reduceEqDiff, Nat.reduceAdd, Nat.reduceSub, Nat.reduceMul, Nat.reduceDiv, Nat.reduceMod, Nat.reduceLeDiff, Nat.reduceLT, Nat.reduceBEq, Int.reduceEq, Int.reduceBEq, Int.reduceBNe, Int.reduceLT, Int.reduceLE, Int.reduceAdd, Int.reduceSub, Int.reduceNeg, Int.reduceToNat, Int.reducePow, Nat.reducePow, Int.reduceMul, Int.reduceDiv, ↓s_law_ClockFulls_b0, hlt, h4', enterK_eq hset]

theorem posA_all {l : List Al} {a : Al} (h : ∀ x, x ∈ l → ltA x a) : posA l a = l.length := by
  unfold posA
  induction l with
  | nil => rfl
  | cons x l ih =>
    rw [List.takeWhile_cons, decide_eq_true (h x (by simp))]
    simp only [if_true, List.length_cons, ih fun y hy => h y (List.mem_cons_of_mem _ hy)]
theorem posA_none {l : List Al} {a : Al} (h : ∀ x, x ∈ l → ¬ ltA x a) : posA l a = 0 := by
  unfold posA
  cases l with
  | nil => rfl
  | cons x l => rw [List.takeWhile_cons, decide_eq_false (h x (by simp))]; rfl

theorem srt_nodup {l : List Al} (hs : Srt l) : l.Nodup := by
  refine List.Pairwise.imp ?_ hs
  intro a b h e
  subst e
  exact ltA_irrefl a h

theorem min_if {a b : Int} : min a b = if b < a then b else a := by rw [Int.min_def]; split <;> split <;> omega

section
variable {m n : Nat} {less : Int} {H H1 H2 H3 H4 H5 H6 : AHeap} {v' v6 : Value} {bb o : Nat} {L : List Al} {c1 c2 c3 c4 c5 c6 : Value} {c7 : AHeap}
set_option maxHeartbeats 1000000 in
theorem full_s1 (g1 : ¬ (m : Int) < 4094) (g2 : ¬ 4098 < (m : Int)) (g3 : ¬ less < 0) (g4 : ¬ 3 < less) (hl0 : 0 < less)
    (hnew : CC F.clock_New [.int .i64 0] H = some (.tuple #[.pointer (some ⟨H.n, 0, none⟩), .int .i64 0], H1))
    (hloop : ∀ K, l_law_ClockFulls_0 (.int .i64 m) (.int .i64 less) (.pointer (some ⟨H.n, 0, none⟩)) (.int .i64 0) H1 K = K (.exit 0) [(39, .bool false), (38, .int .i64 m), (37, .int .i64 m), (0, .int .i64 m), (1, .int .i64 less), (5, .pointer (some ⟨H.n, 0, none⟩)), (7, .int .i64 m)] H2)
    (hnm : (min (m : Int) 4096) = (n : Int))
    (hclear : CC F.clock_Clock_Clear [.pointer (some ⟨H.n, 0, none⟩), .int .i64 0] H2 = some (.int .i64 0, H3))
    (hset : CC F.clock_Clock_Set [.pointer (some ⟨H.n, 0, none⟩), .int .i64 n, .int .i64 5] H3 = some (.int .i64 0, H4))
    (hnext : CC F.clock_Clock_Next [.pointer (some ⟨H.n, 0, none⟩)] H4 = some (.int .i64 (nextOf (⟨(n : Int), 5⟩ :: L)), H4))
    (htick : CC F.clock_Clock_Tick [.pointer (some ⟨H.n, 0, none⟩), .int .i64 99999] H4 = some (.tuple #[v', .int .i64 0], H5))
    (hlen5 : lenS v' = some (.int .i64 (n : Int))) (hix : ixS 2 v' (.int .i64 0) = some (.pointer (some ⟨bb, o, none⟩))) (hcc : cutB (H5.f bb) o 2 = some [.int .i64 n, .int .i64 5])
    (hal : CC F.clock_Clock_Alarms [.pointer (some ⟨H.n, 0, none⟩)] H5 = some (v6, H6)) (hlen6 : lenS v6 = some (.int .i64 ((n : Int) - ((n : Int))))) (hn : (n : Int) ≤ 4096) :
    s_law_ClockFulls guardK condL shareL Try.prog CC l_law_ClockFulls_0 (.int .i64 m) (.int .i64 less) H (endK Try.prog [.tmp 4]) = some (.bool true, H6) := by
  have hnext : CC F.clock_Clock_Next [.pointer (some ⟨H.n, 0, none⟩)] H4 = some (.int .i64 5, H4) := hnext
  have hr : -9223372036854775808 ≤ (n : Int) - ((n : Int)) ∧ (n : Int) - ((n : Int)) < 9223372036854775808 := by omega
  simp (disch := first | with_reducible rfl | assumption | omega | rfl | (simp only [go_sem]; first | done | omega)) only [go_sem, ↓reduceIte, reduceCtorEq, Nat.reduceEqDiff, Nat.reduceAdd, Nat.reduceSub, Nat.reduceMul, Nat.reduceDiv, Nat.reduceMod, Nat.reduceLeDiff, Nat.reduceLT, Nat.reduceBEq, Int.reduceEq, Int.reduceBEq, Int.reduceBNe, Int.reduceLT, Int.reduceLE, Int.reduceAdd, Int.reduceSub, Int.reduceNeg, Int.reduceToNat, Int.reducePow, Nat.reducePow, Int.reduceMul, Int.reduceDiv, ↓s_law_ClockFulls, g1, g2, g3, g4, enterK_eq hnew, ptr_some_eq, hloop, hnm, enterK_eq hclear, enterK_eq hset, enterK_eq hnext, enterK_eq htick, hl0, hlen5, hix, hcc, alarm_eq, enterK_eq hal, hlen6, e_known]

set_option maxHeartbeats 1000000 in
theorem full_s2 (g1 : ¬ (m : Int) < 4094) (g2 : ¬ 4098 < (m : Int)) (g3 : ¬ less < 0) (g4 : ¬ 3 < less) (hl0 : ¬ 0 < less)
    (hnew : CC F.clock_New [.int .i64 0] H = some (.tuple #[.pointer (some ⟨H.n, 0, none⟩), .int .i64 0], H1))
    (hloop : ∀ K, l_law_ClockFulls_0 (.int .i64 m) (.int .i64 less) (.pointer (some ⟨H.n, 0, none⟩)) (.int .i64 0) H1 K = K (.exit 0) [(39, .bool false), (38, .int .i64 m), (37, .int .i64 m), (0, .int .i64 m), (1, .int .i64 less), (5, .pointer (some ⟨H.n, 0, none⟩)), (7, .int .i64 m)] H2)
    (hnm : (min (m : Int) 4096) = (n : Int))
    (hclear : CC F.clock_Clock_Clear [.pointer (some ⟨H.n, 0, none⟩), .int .i64 0] H2 = some (.int .i64 0, H3))
    (hset : CC F.clock_Clock_Set [.pointer (some ⟨H.n, 0, none⟩), .int .i64 n, .int .i64 5] H3 = some (.int .i64 0, H4))
    (hnext : CC F.clock_Clock_Next [.pointer (some ⟨H.n, 0, none⟩)] H4 = some (.int .i64 (nextOf (⟨(n : Int), 5⟩ :: L)), H4))
    (htick : CC F.clock_Clock_Tick [.pointer (some ⟨H.n, 0, none⟩), .int .i64 99999] H4 = some (.tuple #[v', .int .i64 0], H5))
    (hlen5 : lenS v' = some (.int .i64 ((1 : Nat) : Int))) (hix : ixS 2 v' (.int .i64 0) = some (.pointer (some ⟨bb, o, none⟩))) (hcc : cutB (H5.f bb) o 2 = some [.int .i64 n, .int .i64 5])
    (hal : CC F.clock_Clock_Alarms [.pointer (some ⟨H.n, 0, none⟩)] H5 = some (v6, H6)) (hlen6 : lenS v6 = some (.int .i64 ((n : Int) - (((1 : Nat) : Int))))) (hn : (n : Int) ≤ 4096) :
    s_law_ClockFulls guardK condL shareL Try.prog CC l_law_ClockFulls_0 (.int .i64 m) (.int .i64 less) H (endK Try.prog [.tmp 4]) = some (.bool true, H6) := by
  have hnext : CC F.clock_Clock_Next [.pointer (some ⟨H.n, 0, none⟩)] H4 = some (.int .i64 5, H4) := hnext
  have hr : -9223372036854775808 ≤ (n : Int) - (((1 : Nat) : Int)) ∧ (n : Int) - (((1 : Nat) : Int)) < 9223372036854775808 := by omega
  simp (disch := first | with_reducible rfl | assumption | omega | rfl | (simp only [go_sem]; first | done | omega)) only [go_sem, ↓reduceIte, reduceCtorEq, Nat.reduceEqDiff, Nat.reduceAdd, Nat.reduceSub, Nat.reduceMul, Nat.reduceDiv, Nat.reduceMod, Nat.reduceLeDiff, Nat.reduceLT, Nat.reduceBEq, Int.reduceEq, Int.reduceBEq, Int.reduceBNe, Int.reduceLT, Int.reduceLE, Int.reduceAdd, Int.reduceSub, Int.reduceNeg, Int.reduceToNat, Int.reducePow, Nat.reducePow, Int.reduceMul, Int.reduceDiv, ↓s_law_ClockFulls, g1, g2, g3, g4, enterK_eq hnew, ptr_some_eq, hloop, hnm, enterK_eq hclear, enterK_eq hset, enterK_eq hnext, enterK_eq htick, hl0, hlen5, hix, hcc, alarm_eq, enterK_eq hal, hlen6, e_known]
end

set_option maxHeartbeats 1000000 in
theorem q_ClockFulls (many less : Int) (H : AHeap) (hok : Ok H) : ∃ H', CC F.law_ClockFulls [.int .i64 many, .int .i64 less] H = some (.bool true, H') := by
  by_cases hin : 4094 ≤ many ∧ many ≤ 4098 ∧ 0 ≤ less ∧ less ≤ 3
  · obtain ⟨h1, h2, h3, h4⟩ := hin
    have g1 : ¬ many < 4094 := by omega
    have g2 : ¬ 4098 < many := by omega
    have g3 : ¬ less < 0 := by omega
    have g4 : ¬ 3 < less := by omega
    obtain ⟨m, rfl⟩ : ∃ m : Nat, many = (m : Int) := ⟨many.toNat, by omega⟩
    obtain ⟨H1, hnew, hc0, hs0⟩ := q_New 0 H rfl
    obtain ⟨H2, hloop, hc2, hok2, hs2⟩ := l_full less ⟨h3, h4⟩ m (by omega) H.n H (Nat.le_refl _) m 0 H1 (by omega) (by omega) hc0 (hok.fr hs0) hs0
    have hloop : ∀ K, l_law_ClockFulls_0 (.int .i64 m) (.int .i64 less) (.pointer (some ⟨H.n, 0, none⟩)) (.int .i64 0) H1 K = _ := hloop
    -- how many there are
    generalize hn : min m 4096 = n at hc2
    have hnm : (min (m : Int) 4096) = (n : Int) := by omega
    have hn2 : 4094 ≤ n ∧ n ≤ 4096 := by omega
    -- one is cleared
    obtain ⟨k, hk1, hk2, hk3, hk4⟩ := idxFrom_some (id := 0) (l := fullA less n) (i := 0) ⟨item less 0, mem_fullA.2 ⟨0, by omega, rfl⟩, rfl⟩
    obtain ⟨H3, hclear, hc3, hf3⟩ := q_Clear H.n 0 0 _ H2 hok2 hc2 (by rw [len_fullA]; omega) k hk1 (by rw [hk2]; simp)
    have hok3 := hok2.fr hf3
    generalize hL : (fullA less n).take k ++ (fullA less n).drop (k + 1) = L at hc3
    have hLlen : L.length = n - 1 := by rw [← hL]; simp [len_fullA]; rw [len_fullA] at hk1; omega
    have hperm : ∀ x, x ∈ L → x ∈ fullA less n ∧ x.id ≠ 0 := by
      intro x hx
      rw [← hL] at hx
      have hnd := srt_nodup (srt_fullA less n)
      have hsplit : fullA less n = (fullA less n).take k ++ (fullA less n)[k] :: (fullA less n).drop (k + 1) := by rw [← List.drop_eq_getElem_cons hk1, List.take_append_drop]
      have hxin : x ∈ fullA less n := by
        rcases List.mem_append.1 hx with h | h
        · exact List.mem_of_mem_take h
        · exact List.mem_of_mem_drop h
      refine ⟨hxin, fun h0 => ?_⟩
      obtain ⟨j, _, rfl⟩ := mem_fullA.1 hxin
      have hj : j = 0 := by simp [item] at h0; omega
      obtain ⟨j', _, hj'⟩ := mem_fullA.1 (List.getElem_mem hk1)
      rw [hj'] at hk4
      have hj0 : j' = 0 := by simp [item] at hk4; omega
      rw [hsplit] at hnd
      rw [hj', hj0] at hnd
      rw [hj] at hx
      rw [List.nodup_append] at hnd
      obtain ⟨n1, n2, n3⟩ := hnd
      rcases List.mem_append.1 hx with h | h
      · exact n3 _ h _ (by simp) rfl
      · exact (List.nodup_cons.1 n2).1 h
    have hLs : Srt L := by
      rw [← hL]
      have := (List.take_sublist k (fullA less n)).append (List.Sublist.refl ((fullA less n).drop (k + 1)))
      refine List.Pairwise.sublist ?_ (srt_fullA less n)
      have hsplit : fullA less n = (fullA less n).take k ++ (fullA less n)[k] :: (fullA less n).drop (k + 1) := by rw [← List.drop_eq_getElem_cons hk1, List.take_append_drop]
      conv => rhs; rw [hsplit]
      exact List.Sublist.append (List.Sublist.refl _) (List.sublist_cons_self _ _)
    have hLmem : ∀ x, x ∈ L → ∃ j, 1 ≤ j ∧ j < n ∧ x = item less j := by
      intro x hx
      obtain ⟨h, h0⟩ := hperm x hx
      obtain ⟨j, hj, rfl⟩ := mem_fullA.1 h
      refine ⟨j, ?_, hj, rfl⟩
      simp [item] at h0
      omega
    -- one more
    have hneg : ¬ 0 ≤ idxFrom (n : Int) L 0 := by
      rw [idxFrom_neg fun x hx h => ?_]
      · omega
      · obtain ⟨j, _, hj, rfl⟩ := hLmem x hx
        simp [item] at h
        omega
    have hp0 : posA L ⟨(n : Int), 5⟩ = 0 := posA_none fun x hx h => by
      obtain ⟨j, _, hj, rfl⟩ := hLmem x hx
      obtain ⟨hm1, hm2⟩ := mul_small ⟨h3, h4⟩ (i := j) (by omega)
      unfold ltA item at h
      simp at h
      omega
    obtain ⟨H4, hset, hc4, hf4⟩ := q_Set H.n 0 (n : Int) 5 L H3 hok3 hc3 (by omega) rfl hneg (by rw [hLlen]; omega) 0 (by have := posA_pos hLs ⟨(n : Int), 5⟩; rwa [hp0] at this)
    have hok4 := hok3.fr hf4
    simp only [List.take_zero, List.nil_append, List.drop_zero] at hc4
    have hnext := q_Next H.n 0 _ H4 hc4
    have hs4 : Srt (⟨(n : Int), 5⟩ :: L) := by
      refine List.pairwise_cons.2 ⟨fun x hx => ?_, hLs⟩
      obtain ⟨j, _, hj, rfl⟩ := hLmem x hx
      obtain ⟨hm1, hm2⟩ := mul_small ⟨h3, h4⟩ (i := j) (by omega)
      unfold ltA item
      simp
      omega
    -- the ticks
    have hdue : due 0 99999 = 99999 := by decide
    have hpos := posA_pos hs4 ⟨-1, min (due 0 99999 + 1) 4611686018427387904⟩
    generalize hpp : posA (⟨(n : Int), 5⟩ :: L) ⟨-1, min (due 0 99999 + 1) 4611686018427387904⟩ = p at hpos
    have hp : p = if 0 < less then n else 1 := by
      rw [← hpp]
      have hmin : min (due 0 99999 + 1) 4611686018427387904 = 100000 := by decide
      rw [hmin]
      by_cases hl0 : 0 < less
      · rw [if_pos hl0, posA_all]
        · simp [hLlen]; omega
        · intro x hx
          rcases List.mem_cons.1 hx with rfl | hx
          · unfold ltA; simp
          · obtain ⟨j, hj1, hj, rfl⟩ := hLmem x hx
            have : less * (j : Int) ≥ 1 := by
              have : less = 1 ∨ less = 2 ∨ less = 3 := by omega
              rcases this with rfl | rfl | rfl <;> omega
            unfold ltA item
            simp
            omega
      · rw [if_neg hl0]
        have hl1 : less = 0 := by omega
        have hnone : posA L ⟨-1, 100000⟩ = 0 := posA_none fun x hx h => by
          obtain ⟨j, hj1, hj, rfl⟩ := hLmem x hx
          rw [hl1] at h
          unfold ltA item at h
          simp at h
          omega
        unfold posA at hnone ⊢
        rw [List.takeWhile_cons, decide_eq_true (by unfold ltA; simp)]
        simp only [if_true, List.length_cons, hnone]
    obtain ⟨v', H5, htick, ho5, hc5, hf5, hnw⟩ := q_Tick H.n 0 99999 _ H4 hok4 hc4 (by simp [hLlen]; omega) rfl (by omega) p hpos
    have hp1 : 1 ≤ p := by rw [hp]; split <;> omega
    have hpn : p ≤ n := by rw [hp]; split <;> omega
    have htk : ((⟨(n : Int), 5⟩ : Al) :: L).take p = ⟨(n : Int), 5⟩ :: L.take (p - 1) := by
      obtain ⟨q, rfl⟩ : ∃ q, p = q + 1 := ⟨p - 1, by omega⟩
      simp
    have htl : (((⟨(n : Int), 5⟩ : Al) :: L).take p).length = p := by simp [hLlen]; omega
    have hlen5 := ho5.rd.lenS
    rw [htl] at hlen5
    obtain ⟨bb, o, hix, hb, hcc, _⟩ := ho5.rd.ix (q := .i64) (i := 0) (by rw [htl]; omega)
    have hix : ixS 2 v' (.int .i64 0) = some (.pointer (some ⟨bb, o, none⟩)) := hix
    have hcc : cutB (H5.f bb) o 2 = some [.int .i64 n, .int .i64 5] := by
      have e : (((⟨(n : Int), 5⟩ : Al) :: L).take p)[0]'(by rw [htl]; omega) = ⟨(n : Int), 5⟩ := by simp only [htk]; rfl
      rw [e] at hcc
      exact hcc
    obtain ⟨v6, H6, hal, ho6, hs6, _⟩ := q_Alarms H.n (due 0 99999) _ H5 hc5 (by simp [hLlen]; omega)
    have hlen6 := ho6.rd.lenS
    have hdl : (((⟨(n : Int), 5⟩ : Al) :: L).drop p).length = n - p := by simp [hLlen]; omega
    rw [hdl] at hlen6
    have hnp : ((n - p : Nat) : Int) = (n : Int) - (p : Int) := by omega
    rw [hnp] at hlen6
    have hall : ∃ r, s_law_ClockFulls guardK condL shareL Try.prog CC l_law_ClockFulls_0 (.int .i64 m) (.int .i64 less) H (endK Try.prog [.tmp 4]) = some (.bool true, r) := by
      refine ⟨H6, ?_⟩
      by_cases hl0 : 0 < less
      · rw [if_pos hl0] at hp
        subst hp
        exact full_s1 g1 g2 g3 g4 hl0 hnew hloop hnm hclear hset hnext htick hlen5 hix hcc hal hlen6 (by omega)
      · rw [if_neg hl0] at hp
        subst hp
        exact full_s2 g1 g2 g3 g4 hl0 hnew hloop hnm hclear hset hnext htick hlen5 hix hcc hal hlen6 (by omega)
    obtain ⟨r, hr⟩ := hall
    obtain ⟨H'', ht⟩ : ∃ H'', tidy H (.bool true, r) = (.bool true, H'') := by unfold tidy; split <;> exact ⟨_, rfl⟩
    exact ⟨H'', (d_law_ClockFulls _ _ H hr).trans (congrArg some ht)⟩
  · have hall : ∃ r, s_law_ClockFulls guardK condL shareL Try.prog CC l_law_ClockFulls_0 (.int .i64 many) (.int .i64 less) H (endK Try.prog [.tmp 4]) = some (.bool true, r) := by
      refine ⟨H, ?_⟩
      by_cases g1 : many < 4094
      · simp (disch := first | with_reducible rfl | assumption | omega | rfl | (simp only [go_sem]; first | done | omega)) only [go_sem, ↓reduceIte, reduceCtorEq, Nat.reduceEqDiff, Nat.reduceAdd, Nat.reduceSub, Nat.reduceMul, Nat.reduceDiv, Nat.reduceMod, Nat.reduceLeDiff, Nat.reduceLT, Nat.reduceBEq, Int.reduceEq, Int.reduceBEq, Int.reduceBNe, Int.reduceLT, Int.reduceLE, Int.reduceAdd, Int.reduceSub, Int.reduceNeg, Int.reduceToNat, Int.reducePow, Nat.reducePow, Int.reduceMul, Int.reduceDiv, ↓s_law_ClockFulls, g1, e_known]
      · by_cases g2 : 4098 < many
        · simp (disch := first | with_reducible rfl | assumption | omega | rfl | (simp only [go_sem]; first | done | omega)) only [go_sem, ↓reduceIte, reduceCtorEq, Nat.reduceEqDiff, Nat.reduceAdd, Nat.reduceSub, Nat.reduceMul, Nat.reduceDiv, Nat.reduceMod, Nat.reduceLeDiff, Nat.reduceLT, Nat.reduceBEq, Int.reduceEq, Int.reduceBEq, Int.reduceBNe, Int.reduceLT, Int.reduceLE, Int.reduceAdd, Int.reduceSub, Int.reduceNeg, Int.reduceToNat, Int.reducePow, Nat.reducePow, Int.reduceMul, Int.reduceDiv, ↓s_law_ClockFulls, g1, g2, e_known]
        · by_cases g3 : less < 0
          · simp (disch := first | with_reducible rfl | assumption | omega | rfl | (simp only [go_sem]; first | done | omega)) only [go_sem, ↓reduceIte, reduceCtorEq, Nat.reduceEqDiff, Nat.reduceAdd, Nat.reduceSub, Nat.reduceMul, Nat.reduceDiv, Nat.reduceMod, Nat.reduceLeDiff, Nat.reduceLT, Nat.reduceBEq, Int.reduceEq, Int.reduceBEq, Int.reduceBNe, Int.reduceLT, Int.reduceLE, Int.reduceAdd, Int.reduceSub, Int.reduceNeg, Int.reduceToNat, Int.reducePow, Nat.reducePow, Int.reduceMul, Int.reduceDiv, ↓s_law_ClockFulls, g1, g2, g3, e_known]
          · have g4 : 3 < less := by omega
            simp (disch := first | with_reducible rfl | assumption | omega | rfl | (simp only [go_sem]; first | done | omega)) only [go_sem, ↓reduceIte, reduceCtorEq, Nat.reduceEqDiff, Nat.reduceAdd, Nat.reduceSub, Nat.reduceMul, Nat.reduceDiv, Nat.reduceMod, Nat.reduceLeDiff, Nat.reduceLT, Nat.reduceBEq, Int.reduceEq, Int.reduceBEq, Int.reduceBNe, Int.reduceLT, Int.reduceLE, Int.reduceAdd, Int.reduceSub, Int.reduceNeg, Int.reduceToNat, Int.reducePow, Nat.reducePow, Int.reduceMul, Int.reduceDiv, ↓s_law_ClockFulls, g1, g2, g3, g4, e_known]
    obtain ⟨r, hr⟩ := hall
    obtain ⟨H'', ht⟩ : ∃ H'', tidy H (.bool true, r) = (.bool true, H'') := by unfold tidy; split <;> exact ⟨_, rfl⟩
    exact ⟨H'', (d_law_ClockFulls _ _ H hr).trans (congrArg some ht)⟩

theorem H0_ok : Ok H0 := fun _ => Nat.zero_lt_one

theorem run_ClockFulls (a b : Int) (_ : (Lit.int .i64 a).wf = true) (_ : (Lit.int .i64 b).wf = true) : ∃ k H', dCall Try.prog prims1 hints k 4 [.int .i64 a, .int .i64 b] H0 = some (.bool true, H') := by
  obtain ⟨H', h⟩ := q_ClockFulls a b H0 H0_ok
  obtain ⟨k, hk⟩ := D_run h
  exact ⟨k, H', hk⟩

end Go.Proofs.Ytldgonjihhndgaa
