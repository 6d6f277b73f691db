/-
  6 texts in one (merge.py): M ShClockPlays DsClockPlays R S LawClockPlays.
  Conditions: none. By an AI agent.
-/
import Derived.Test.YtldgonjihhndgaaLawClockPlaysQ4
import Derived.Test.YtldgonjihhndgaaChecked
import Derived.KernelRfl
import Derived.Test.YtldgonjihhndgaaRows
import Derived.WalkKit
import Derived.ProofKit
import Derived.OpenShut
import Derived.ShutString
import Derived.ChangeOld
import Derived.Below
import Derived.SizedLaws
import Derived.ChangeArms
import Derived.Carry

/-
  Chapter 02: the law ClockHolds runs to true.
  Conditions: none. By an AI agent.
-/
set_option maxRecDepth 10000
set_option linter.unusedSimpArgs false
set_option linter.unusedVariables false
namespace Go.Proofs.Ytldgonjihhndgaa
open Go Eng

/-- Two clocks, of which one has ticked, and the alarms that it gave. -/
structure Ch (Hz H : AHeap) (bc bd : Nat) (now0 : Int) (l : List Al) (now sum : Int) (i : Nat) (rest all : List Al) (w : Value) : Prop where
  ok : Ok H
  base : Still Hz H
  c : Clk H bc now rest
  d : Clk H bd now0 l
  a : Own EAl H T.api_Alarm w all
  a0 : all = [] → w = .slice none 0 0
  ne : bd ≠ bc
  lo : Hz.n ≤ bc
  la : ∀ k, blockOf w = some k → Hz.n ≤ k
  tick : isTick now = true
  at_ : now = due now0 sum
  sum0 : 0 ≤ sum
  sum1 : sum ≤ 1099511627776 * (i : Int)
  cat : all ++ rest = l
  before : ∀ a, a ∈ all → ltA a (bnd now)
  behind : 0 < i → ∀ a, a ∈ rest → ¬ ltA a (bnd now)
  zero : i = 0 → all = []

theorem due_due {now s x : Int} (h : isTick now = true) (hs : 0 ≤ s) (hx : 0 ≤ x) : due (due now s) x = due now (s + x) := by
  have := isTick_iff.1 h
  unfold due
  split <;> split <;> (try split) <;> omega
theorem bnd_le {a : Al} {m n : Int} (h : m ≤ n) (ha : 0 ≤ a.id) (k : ltA a (bnd m)) : ltA a (bnd n) := by
  rw [lt_bnd ha] at k ⊢
  omega

theorem l_ticks (ats ns : List Int) (va vn w9 : Value) (bc bd : Nat) (now0 : Int) (l : List Al) (Hz : AHeap) (hra : Rd EI Hz va ats) (hrn : Rd EI Hz vn ns) (h40 : ats.length ≤ 40) (h20 : ns.length ≤ 20) (ht0 : isTick now0 = true) (srt : Srt l) (good : Good ats ats.length l) (hl : l.length ≤ 40) :
    ∀ (x : List Int) (i : Nat) (H : AHeap) (now sum : Int) (rest all : List Al) (w : Value), ns.drop i = x → i ≤ ns.length → Ch Hz H bc bd now0 l now sum i rest all w →
      (∃ H', ∀ K : K, l_law_ClockHolds_1 va vn (.pointer (some ⟨bc, 0, none⟩)) w9 (.pointer (some ⟨bd, 0, none⟩)) (.int .i64 sum) w vn (.int .i64 (ns.length : Int)) (.int .i64 (i : Int)) H (blkK [2, 7, 9, 12, 13, 14] 2 K) = K .ret [(6, .bool true)] H') ∨
      (∃ H' now' sum' rest' all' w', Ch Hz H' bc bd now0 l now' sum' ns.length rest' all' w' ∧
        ∀ K : K, l_law_ClockHolds_1 va vn (.pointer (some ⟨bc, 0, none⟩)) w9 (.pointer (some ⟨bd, 0, none⟩)) (.int .i64 sum) w vn (.int .i64 (ns.length : Int)) (.int .i64 (i : Int)) H (blkK [2, 7, 9, 12, 13, 14] 2 K) = K .normal [(2, vn), (7, .pointer (some ⟨bc, 0, none⟩)), (9, w9), (12, .pointer (some ⟨bd, 0, none⟩)), (13, .int .i64 sum'), (14, w')] H')
  | [], i, H, now, sum, rest, all, w, hx, hi, t => by
    have h : ns.length ≤ i := List.drop_eq_nil_iff.1 hx
    have hlt : ¬ (i : Int) < (ns.length : Int) := by omega
    have e : i = ns.length := by omega
    refine .inr ⟨H, now, sum, rest, all, w, e ▸ t, fun K => ?_⟩
    rw [r_law_ClockHolds_1]
    simp (disch := first | with_reducible rfl | assumption | omega | rfl | (simp only [go_sem]; first | done | omega)) only [go_sem, ↓reduceIte, reduceCtorEq, Nat.reduceEqDiff, Nat.reduceAdd, Nat.reduceSub, Nat.reduceMul, Nat.reduceDiv, Nat.reduceMod, Nat.reduceLeDiff, Nat.reduceLT, Nat.reduceBEq, Int.reduceEq, Int.reduceBEq, Int.reduceBNe, Int.reduceLT, Int.reduceLE, Int.reduceAdd, Int.reduceSub, Int.reduceNeg, Int.reduceToNat, Int.reducePow, Nat.reducePow, Int.reduceMul, Int.reduceDiv, ↓s_law_ClockHolds_b1, hlt]
  | y :: x, i, H, now, sum, rest, all, w, hx, hi, t => by
    obtain ⟨h, hxa, hx'⟩ := drop_cons hx
    have hlt : (i : Int) < (ns.length : Int) := by omega
    obtain ⟨b1, o1, hix, hb1, hc1, _⟩ := (hrn.still t.base).ix (q := .i64) h
    rw [hxa] at hc1
    have hix : ixS 1 vn (.int .i64 i) = some (.pointer (some ⟨b1, o1, none⟩)) := hix
    have hck : cellB (H.f b1) o1 = some (.int .i64 y) := cutB_cell hc1 (i := 0) (by decide)
    by_cases h1 : y < 0
    · refine .inl ⟨H, fun K => ?_⟩
      rw [r_law_ClockHolds_1]
      simp (disch := first | with_reducible rfl | assumption | omega | rfl | (simp only [go_sem]; first | done | omega)) only [go_sem, ↓reduceIte, reduceCtorEq, Nat.reduceEqDiff, Nat.reduceAdd, Nat.reduceSub, Nat.reduceMul, Nat.reduceDiv, Nat.reduceMod, Nat.reduceLeDiff, Nat.reduceLT, Nat.reduceBEq, Int.reduceEq, Int.reduceBEq, Int.reduceBNe, Int.reduceLT, Int.reduceLE, Int.reduceAdd, Int.reduceSub, Int.reduceNeg, Int.reduceToNat, Int.reducePow, Nat.reducePow, Int.reduceMul, Int.reduceDiv, ↓s_law_ClockHolds_b1, hlt, hix, hck, decide_eq_true h1]
    by_cases h2 : 1099511627776 < y
    · refine .inl ⟨H, fun K => ?_⟩
      rw [r_law_ClockHolds_1]
      simp (disch := first | with_reducible rfl | assumption | omega | rfl | (simp only [go_sem]; first | done | omega)) only [go_sem, ↓reduceIte, reduceCtorEq, Nat.reduceEqDiff, Nat.reduceAdd, Nat.reduceSub, Nat.reduceMul, Nat.reduceDiv, Nat.reduceMod, Nat.reduceLeDiff, Nat.reduceLT, Nat.reduceBEq, Int.reduceEq, Int.reduceBEq, Int.reduceBNe, Int.reduceLT, Int.reduceLE, Int.reduceAdd, Int.reduceSub, Int.reduceNeg, Int.reduceToNat, Int.reducePow, Nat.reducePow, Int.reduceMul, Int.reduceDiv, ↓s_law_ClockHolds_b1, hlt, hix, hck, decide_eq_false h1, decide_eq_true h2]
    have hy0 : 0 ≤ y := by omega
    have hnow := q_Now bc now rest H t.c
    have hcat := t.cat
    have hlr : rest.length ≤ 40 := by have := congrArg List.length hcat; simp at this; omega
    have hla : all.length ≤ 40 := by have := congrArg List.length hcat; simp at this; omega
    have srest : Srt rest := by rw [← hcat] at srt; exact (List.pairwise_append.1 srt).2.1
    obtain ⟨v1, H1, htick, o1', c1, fr1, new1⟩ := q_tickE bc now y rest H t.ok t.c srest (by omega) t.tick hy0
    obtain ⟨tk, le⟩ := due_tick t.tick hy0
    have hp := pos_le srest (bnd (due now y))
    have hpl : ∀ a, a ∈ rest.take (posA rest (bnd (due now y))) → ltA a (bnd (due now y)) := fun a ha => pos_lt srest _ ha
    have hpg : ∀ a, a ∈ rest.drop (posA rest (bnd (due now y))) → ¬ ltA a (bnd (due now y)) := fun a ha => pos_ge srest _ ha
    have hsplit := List.take_append_drop (posA rest (bnd (due now y))) rest
    have hsub1 : ∀ a, a ∈ rest.take (posA rest (bnd (due now y))) → a ∈ rest := fun a ha => List.mem_of_mem_take ha
    have hsub2 : ∀ a, a ∈ rest.drop (posA rest (bnd (due now y))) → a ∈ rest := fun a ha => List.mem_of_mem_drop ha
    generalize hD : rest.take (posA rest (bnd (due now y))) = D at *
    generalize hR : rest.drop (posA rest (bnd (due now y))) = R at *
    have hlD : D.length ≤ 40 := by have := congrArg List.length hsplit; simp at this; omega
    have hlR : R.length ≤ 40 := by have := congrArg List.length hsplit; simp at this; omega
    generalize hnw : due now y = nw at *
    have inl : ∀ a, a ∈ rest → a ∈ l := fun a ha => by rw [← hcat]; exact List.mem_append_right _ ha
    have d1 := t.d.other t.c t.ne fr1
    have a1 := own_off t.a t.c (by decide) fr1
    have hsrc := Rd.src o1'.rd (sz := 2) rfl
    obtain ⟨w2, H2, happ, o2, fr2, hb2, hw2⟩ := Own.appE a1 (m := D) (sz := 2) (bytes := 16) rfl (by omega) (by omega) hsrc
    have hty : ∀ k, OnlyOf w k → ∃ cs t m, H1.f k = .cells cs t m ∧ t = T.api_Alarm := fun k hk => own_ty a1 t.a0 k hk
    have c2 : Clk H2 bc nw R := c1.keepT fr2 (fun hk => by obtain ⟨cs, t', m, e1, e2⟩ := hty bc hk; obtain ⟨v, e3, _⟩ := c1; rw [e1] at e3; cases e3; exact absurd e2 (by decide)) fun k hk => by obtain ⟨cs, t', m, e1, e2⟩ := hty k hk; exact ⟨cs, t', m, e1, by rw [e2]; decide⟩
    have d2 : Clk H2 bd now0 l := d1.keepT fr2 (fun hk => by obtain ⟨cs, t', m, e1, e2⟩ := hty bd hk; obtain ⟨v, e3, _⟩ := d1; rw [e1] at e3; cases e3; exact absurd e2 (by decide)) fun k hk => by obtain ⟨cs, t', m, e1, e2⟩ := hty k hk; exact ⟨cs, t', m, e1, by rw [e2]; decide⟩
    have v2 : Own EAl H2 T.api_Alarm v1 D := o1'.keep fr2 fun k hk hk2 => by
      have := new1 k hk
      have := t.a.blk hk2
      omega
    have ok2 : Ok H2 := (t.ok.fr fr1).fr fr2
    have n1 : H.n ≤ H1.n := fr1.n
    have nz : Hz.n ≤ H.n := t.base.n
    have base2 : Still Hz H2 := (t.base.still.then fr1 fun k hk h => by have := t.lo; omega).still.then fr2 fun k hk h => by have := t.la k h; omega
    have hnow2 := q_Now bc nw R H2 c2
    have q1 : ¬ nw < now := by omega
    have q2 : ¬ 4611686018427387904 < nw := by have := isTick_iff.1 tk; omega
    have gid : ∀ a, a ∈ rest → 0 ≤ a.id := fun a ha => good.id (inl a ha)
    obtain ⟨H3, s3, hl2⟩ := l_due ats va vn w9 (.pointer (some ⟨bd, 0, none⟩)) (.int .i64 (sum + y)) w2 vn (.int .i64 (ns.length : Int)) (.int .i64 (i : Int)) v1 bc nw R D H2 (hra.still base2) v2.rd c2 h40 hlD
      (fun a ha => ⟨(lt_bnd (gid a (hsub1 a ha))).1 (hpl a ha), by obtain ⟨j, _, hj, e⟩ := good a (inl a (hsub1 a ha)); exact ⟨j, hj, e⟩⟩) D 0 H2 rfl (by omega) (Fr.refl H2)
    have c3 := c2.still s3
    obtain ⟨v4, H4, hal, o4, s4, _⟩ := q_Alarms bc nw R H3 c3 (by omega)
    have c4 := c3.still s4
    obtain ⟨H5, s5, hl3⟩ := l_left va vn w9 (.pointer (some ⟨bd, 0, none⟩)) (.int .i64 (sum + y)) w2 vn (.int .i64 (ns.length : Int)) (.int .i64 (i : Int)) v4 bc nw R R H4 o4.rd c4 hlR
      (fun a ha hc => hpg a ha ((lt_bnd (gid a (hsub2 a ha))).2 hc)) R 0 H4 rfl (by omega) (Fr.refl H4)
    have s345 : Still H2 H5 := (s3.still.then s4 fun _ _ h => h).still.then s5 fun _ _ h => h
    have t5 : Ch Hz H5 bc bd now0 l nw (sum + y) (i + 1) R (all ++ D) w2 := by
      have a5 := o2.still s345
      refine ⟨ok2.fr s345, base2.still.then s345 fun _ _ h => h, c2.still s345, d2.still s345, a5, fun h => ?_, t.ne, t.lo, fun k hk => ?_, tk, ?_, by have := t.sum0; omega, ?_, ?_, fun a ha => ?_, fun _ a ha => hpg a ha, fun h => by omega⟩
      · obtain ⟨h1, h2⟩ := List.append_eq_nil_iff.1 h
        rw [hw2 h2]
        exact t.a0 h1
      · rcases hb2 with e | e
        · rw [e] at hk; exact t.la k hk
        · rw [e] at hk; cases hk; omega
      · rw [← hnw, t.at_]; exact due_due ht0 t.sum0 hy0
      · have := t.sum1; rw [Int.natCast_add]; omega
      · rw [List.append_assoc, hsplit]; exact hcat
      · rcases List.mem_append.1 ha with ha | ha
        · exact bnd_le le (good.id (by rw [← hcat]; exact List.mem_append_left _ ha)) (t.before a ha)
        · exact hpl a ha
    have hsum := t.sum1
    have hsum0 := t.sum0
    have hlD' := v2.rd.lenS
    have hlR' := o4.rd.lenS
    have step : ∀ K : K, l_law_ClockHolds_1 va vn (.pointer (some ⟨bc, 0, none⟩)) w9 (.pointer (some ⟨bd, 0, none⟩)) (.int .i64 sum) w vn (.int .i64 (ns.length : Int)) (.int .i64 (i : Int)) H (blkK [2, 7, 9, 12, 13, 14] 2 K) =
        l_law_ClockHolds_1 va vn (.pointer (some ⟨bc, 0, none⟩)) w9 (.pointer (some ⟨bd, 0, none⟩)) (.int .i64 (sum + y)) w2 vn (.int .i64 (ns.length : Int)) (.int .i64 ((i + 1 : Nat) : Int)) H5 (blkK [2, 7, 9, 12, 13, 14] 2 K) := fun K => by
      rw [r_law_ClockHolds_1, Int.natCast_add]
      simp (disch := first | with_reducible rfl | assumption | omega | rfl | (simp only [go_sem]; first | done | omega)) only [go_sem, ↓reduceIte, reduceCtorEq, Nat.reduceEqDiff, Nat.reduceAdd, Nat.reduceSub, Nat.reduceMul, Nat.reduceDiv, Nat.reduceMod, Nat.reduceLeDiff, Nat.reduceLT, Nat.reduceBEq, Int.reduceEq, Int.reduceBEq, Int.reduceBNe, Int.reduceLT, Int.reduceLE, Int.reduceAdd, Int.reduceSub, Int.reduceNeg, Int.reduceToNat, Int.reducePow, Nat.reducePow, Int.reduceMul, Int.reduceDiv, ↓s_law_ClockHolds_b1, hlt, hix, hck, decide_eq_false h1, decide_eq_false h2, enterK_eq hnow, enterK_eq htick, happ, enterK_eq hnow2, decide_eq_false q1, decide_eq_false q2, hlD']
      refine (hl2 _).trans ?_
      simp (disch := first | with_reducible rfl | assumption | omega | rfl | (simp only [go_sem]; first | done | omega)) only [go_sem, ↓reduceIte, reduceCtorEq, Nat.reduceEqDiff, Nat.reduceAdd, Nat.reduceSub, Nat.reduceMul, Nat.reduceDiv, Nat.reduceMod, Nat.reduceLeDiff, Nat.reduceLT, Nat.reduceBEq, Int.reduceEq, Int.reduceBEq, Int.reduceBNe, Int.reduceLT, Int.reduceLE, Int.reduceAdd, Int.reduceSub, Int.reduceNeg, Int.reduceToNat, Int.reducePow, Nat.reducePow, Int.reduceMul, Int.reduceDiv, enterK_eq hal, hlR']
      refine (hl3 _).trans ?_
      simp (disch := first | with_reducible rfl | assumption | omega | rfl | (simp only [go_sem]; first | done | omega)) only [go_sem, ↓reduceIte, reduceCtorEq, Nat.reduceEqDiff, Nat.reduceAdd, Nat.reduceSub, Nat.reduceMul, Nat.reduceDiv, Nat.reduceMod, Nat.reduceLeDiff, Nat.reduceLT, Nat.reduceBEq, Int.reduceEq, Int.reduceBEq, Int.reduceBNe, Int.reduceLT, Int.reduceLE, Int.reduceAdd, Int.reduceSub, Int.reduceNeg, Int.reduceToNat, Int.reducePow, Nat.reducePow, Int.reduceMul, Int.reduceDiv]
    rcases l_ticks ats ns va vn w9 bc bd now0 l Hz hra hrn h40 h20 ht0 srt good hl x (i + 1) H5 nw (sum + y) R (all ++ D) w2 hx' h t5 with ⟨H', ih⟩ | ⟨H', now', sum', rest', all', w', t', ih⟩
    · exact .inl ⟨H', fun K => (step K).trans (ih K)⟩
    · exact .inr ⟨H', now', sum', rest', all', w', t', fun K => (step K).trans (ih K)⟩

@[go_sem] theorem ck_nil {ox oy : Operand} : xbin Try.prog .eql T.p_clock_Clock ox oy (.pointer none) (.pointer none) = some (.bool true) := by kernel_rfl
@[go_sem] theorem ck_some {ox oy : Operand} {a : Addr} : xbin Try.prog .eql T.p_clock_Clock ox oy (.pointer (some a)) (.pointer none) = some (.bool false) := by kernel_rfl

theorem q_ClockHolds (now : Int) (ats ns : List Int) (va vn : Value) (H : AHeap) (ok : Ok H) (hra : Rd EI H va ats) (hrn : Rd EI H vn ns) : ∃ H', CC F.law_ClockHolds [.int .i64 now, va, vn] H = some (.bool true, H') := by
  have hla := hra.lenS
  have hln := hrn.lenS
  by_cases h1 : 40 < (ats.length : Int)
  · refine any_of (H1 := ?_) (d_law_ClockHolds _ _ _ H ?_)
    rotate_left 1
    · simp (disch := first | with_reducible rfl | assumption | omega | rfl | (simp only [go_sem]; first | done | omega)) only [go_sem, ↓reduceIte, reduceCtorEq, Nat.reduceEqDiff, Nat.reduceAdd, Nat.reduceSub, Nat.reduceMul, Nat.reduceDiv, Nat.reduceMod, Nat.reduceLeDiff, Nat.reduceLT, Nat.reduceBEq, Int.reduceEq, Int.reduceBEq, Int.reduceBNe, Int.reduceLT, Int.reduceLE, Int.reduceAdd, Int.reduceSub, Int.reduceNeg, Int.reduceToNat, Int.reducePow, Nat.reducePow, Int.reduceMul, Int.reduceDiv, ↓s_law_ClockHolds, hla, decide_eq_true h1]
      rfl
  by_cases h2 : 20 < (ns.length : Int)
  · refine any_of (H1 := ?_) (d_law_ClockHolds _ _ _ H ?_)
    rotate_left 1
    · simp (disch := first | with_reducible rfl | assumption | omega | rfl | (simp only [go_sem]; first | done | omega)) only [go_sem, ↓reduceIte, reduceCtorEq, Nat.reduceEqDiff, Nat.reduceAdd, Nat.reduceSub, Nat.reduceMul, Nat.reduceDiv, Nat.reduceMod, Nat.reduceLeDiff, Nat.reduceLT, Nat.reduceBEq, Int.reduceEq, Int.reduceBEq, Int.reduceBNe, Int.reduceLT, Int.reduceLE, Int.reduceAdd, Int.reduceSub, Int.reduceNeg, Int.reduceToNat, Int.reducePow, Nat.reducePow, Int.reduceMul, Int.reduceDiv, ↓s_law_ClockHolds, hla, hln, decide_eq_false h1, decide_eq_true h2]
      rfl
  cases ht : isTick now with
  | false =>
    have hnew := q_New_bad now H ht
    refine any_of (H1 := ?_) (d_law_ClockHolds _ _ _ H ?_)
    rotate_left 1
    · simp (disch := first | with_reducible rfl | assumption | omega | rfl | (simp only [go_sem]; first | done | omega)) only [go_sem, ↓reduceIte, reduceCtorEq, Nat.reduceEqDiff, Nat.reduceAdd, Nat.reduceSub, Nat.reduceMul, Nat.reduceDiv, Nat.reduceMod, Nat.reduceLeDiff, Nat.reduceLT, Nat.reduceBEq, Int.reduceEq, Int.reduceBEq, Int.reduceBNe, Int.reduceLT, Int.reduceLE, Int.reduceAdd, Int.reduceSub, Int.reduceNeg, Int.reduceToNat, Int.reducePow, Nat.reducePow, Int.reduceMul, Int.reduceDiv, ↓s_law_ClockHolds, hla, hln, decide_eq_false h1, decide_eq_false h2, enterK_eq hnew]
      rfl
  | true =>
    obtain ⟨H1, hnew, c1, s1⟩ := q_New now H ht
    have hla1 := (hra.still s1).lenS
    obtain ⟨l, H2, ok2, s2, c2, srt, good, hl, hset⟩ := l_sets ats va vn H.n now H (Nat.le_refl _) hra (by omega) ats 0 H1 [] rfl (by omega) (ok.fr s1) s1 c1 List.Pairwise.nil (fun a ha => by cases ha) (by simp)
    obtain ⟨bd, H3, hcp, d3, s3, hbd⟩ := q_Copy H.n now l H2 c2 (by omega)
    have nc := c2
    have hne : bd ≠ H.n := by obtain ⟨v, _, hb, _⟩ := c2; omega
    have s03 : Still H H3 := s2.still.then s3 fun _ _ h => h
    have t3 : Ch H H3 H.n bd now l now 0 0 l [] (.slice none 0 0) :=
      ⟨ok2.fr s3, s03, c2.still s3, d3, .inl ⟨rfl, rfl⟩, fun _ => rfl, hne, Nat.le_refl _, (fun k hk => by cases hk), ht, (by have := isTick_iff.1 ht; unfold due; split <;> omega), by omega, by omega, rfl, (fun a ha => by cases ha), (fun h => by omega), (fun _ => rfl)⟩
    rcases l_ticks ats ns va vn (.int .i64 (l.length : Int)) H.n bd now l H hra hrn (by omega) (by omega) ht srt good hl ns 0 H3 now 0 l [] _ rfl (by omega) t3 with ⟨H4, hloop⟩ | ⟨H4, now', sum, rest, all, w, t, hloop⟩
    · refine any_of (H1 := H4) (d_law_ClockHolds _ _ _ H ?_)
      simp (disch := first | with_reducible rfl | assumption | omega | rfl | (simp only [go_sem]; first | done | omega)) only [go_sem, ↓reduceIte, reduceCtorEq, Nat.reduceEqDiff, Nat.reduceAdd, Nat.reduceSub, Nat.reduceMul, Nat.reduceDiv, Nat.reduceMod, Nat.reduceLeDiff, Nat.reduceLT, Nat.reduceBEq, Int.reduceEq, Int.reduceBEq, Int.reduceBNe, Int.reduceLT, Int.reduceLE, Int.reduceAdd, Int.reduceSub, Int.reduceNeg, Int.reduceToNat, Int.reducePow, Nat.reducePow, Int.reduceMul, Int.reduceDiv, ↓s_law_ClockHolds, hla, hln, decide_eq_false h1, decide_eq_false h2, enterK_eq hnew, ck_some]
      refine (hset _).trans ?_
      simp (disch := first | with_reducible rfl | assumption | omega | rfl | (simp only [go_sem]; first | done | omega)) only [go_sem, ↓reduceIte, reduceCtorEq, Nat.reduceEqDiff, Nat.reduceAdd, Nat.reduceSub, Nat.reduceMul, Nat.reduceDiv, Nat.reduceMod, Nat.reduceLeDiff, Nat.reduceLT, Nat.reduceBEq, Int.reduceEq, Int.reduceBEq, Int.reduceBNe, Int.reduceLT, Int.reduceLE, Int.reduceAdd, Int.reduceSub, Int.reduceNeg, Int.reduceToNat, Int.reducePow, Nat.reducePow, Int.reduceMul, Int.reduceDiv, enterK_eq hcp, ck_some, hln]
      refine (hloop _).trans ?_
      simp (disch := first | with_reducible rfl | assumption | omega | rfl | (simp only [go_sem]; first | done | omega)) only [go_sem, ↓reduceIte, reduceCtorEq, Nat.reduceEqDiff, Nat.reduceAdd, Nat.reduceSub, Nat.reduceMul, Nat.reduceDiv, Nat.reduceMod, Nat.reduceLeDiff, Nat.reduceLT, Nat.reduceBEq, Int.reduceEq, Int.reduceBEq, Int.reduceBNe, Int.reduceLT, Int.reduceLE, Int.reduceAdd, Int.reduceSub, Int.reduceNeg, Int.reduceToNat, Int.reducePow, Nat.reducePow, Int.reduceMul, Int.reduceDiv]
    · have hcat := congrArg List.length t.cat
      simp at hcat
      by_cases h0 : (ns.length : Int) = 0
      · -- nothing has ticked
        obtain ⟨v5, H5, hal, o5, s5, _⟩ := q_Alarms H.n now' rest H4 t.c (by omega)
        have hl5 := o5.rd.lenS
        have hall : all = [] := t.zero (by omega)
        have hrl : rest = l := by have := t.cat; rw [hall] at this; exact this
        rw [hrl] at hl5
        refine any_of (H1 := H5) (d_law_ClockHolds _ _ _ H ?_)
        simp (disch := first | with_reducible rfl | assumption | omega | rfl | (simp only [go_sem]; first | done | omega)) only [go_sem, ↓reduceIte, reduceCtorEq, Nat.reduceEqDiff, Nat.reduceAdd, Nat.reduceSub, Nat.reduceMul, Nat.reduceDiv, Nat.reduceMod, Nat.reduceLeDiff, Nat.reduceLT, Nat.reduceBEq, Int.reduceEq, Int.reduceBEq, Int.reduceBNe, Int.reduceLT, Int.reduceLE, Int.reduceAdd, Int.reduceSub, Int.reduceNeg, Int.reduceToNat, Int.reducePow, Nat.reducePow, Int.reduceMul, Int.reduceDiv, ↓s_law_ClockHolds, hla, hln, decide_eq_false h1, decide_eq_false h2, enterK_eq hnew, ck_some]
        refine (hset _).trans ?_
        simp (disch := first | with_reducible rfl | assumption | omega | rfl | (simp only [go_sem]; first | done | omega)) only [go_sem, ↓reduceIte, reduceCtorEq, Nat.reduceEqDiff, Nat.reduceAdd, Nat.reduceSub, Nat.reduceMul, Nat.reduceDiv, Nat.reduceMod, Nat.reduceLeDiff, Nat.reduceLT, Nat.reduceBEq, Int.reduceEq, Int.reduceBEq, Int.reduceBNe, Int.reduceLT, Int.reduceLE, Int.reduceAdd, Int.reduceSub, Int.reduceNeg, Int.reduceToNat, Int.reducePow, Nat.reducePow, Int.reduceMul, Int.reduceDiv, enterK_eq hcp, ck_some, hln]
        refine (hloop _).trans ?_
        simp (disch := first | with_reducible rfl | assumption | omega | rfl | (simp only [go_sem]; first | done | omega)) only [go_sem, ↓reduceIte, reduceCtorEq, Nat.reduceEqDiff, Nat.reduceAdd, Nat.reduceSub, Nat.reduceMul, Nat.reduceDiv, Nat.reduceMod, Nat.reduceLeDiff, Nat.reduceLT, Nat.reduceBEq, Int.reduceEq, Int.reduceBEq, Int.reduceBNe, Int.reduceLT, Int.reduceLE, Int.reduceAdd, Int.reduceSub, Int.reduceNeg, Int.reduceToNat, Int.reducePow, Nat.reducePow, Int.reduceMul, Int.reduceDiv, hln, decide_eq_true h0, enterK_eq hal, hl5]
      · -- the copy ticks at once
        have hm : l.take (posA l (bnd (due now sum))) = all := by
          rw [← t.at_, ← t.cat, posA_mid t.before (t.behind (by omega)), List.take_left]
        obtain ⟨H5, hticks, d5, fr5⟩ := q_ticks bd now sum l all w H4 t.ok t.d srt (by omega) ht t.sum0 t.a hm
        have c5 := t.c.other t.d (fun h => t.ne h.symm) fr5
        have w5 := own_off t.a t.d (by decide) fr5
        have hn5 := q_Now bd (due now sum) _ H5 d5
        have hm5 := q_Now H.n now' rest H5 c5
        rw [t.at_] at hm5
        obtain ⟨v6, H6, hal, o6, s6, _⟩ := q_Alarms H.n now' rest H5 c5 (by omega)
        have hl6 := o6.rd.lenS
        have hlw := w5.rd.lenS
        have hadd : ((all.length : Int) + (rest.length : Int)) = (l.length : Int) := by omega
        refine any_of (H1 := H6) (d_law_ClockHolds _ _ _ H ?_)
        simp (disch := first | with_reducible rfl | assumption | omega | rfl | (simp only [go_sem]; first | done | omega)) only [go_sem, ↓reduceIte, reduceCtorEq, Nat.reduceEqDiff, Nat.reduceAdd, Nat.reduceSub, Nat.reduceMul, Nat.reduceDiv, Nat.reduceMod, Nat.reduceLeDiff, Nat.reduceLT, Nat.reduceBEq, Int.reduceEq, Int.reduceBEq, Int.reduceBNe, Int.reduceLT, Int.reduceLE, Int.reduceAdd, Int.reduceSub, Int.reduceNeg, Int.reduceToNat, Int.reducePow, Nat.reducePow, Int.reduceMul, Int.reduceDiv, ↓s_law_ClockHolds, hla, hln, decide_eq_false h1, decide_eq_false h2, enterK_eq hnew, ck_some]
        refine (hset _).trans ?_
        simp (disch := first | with_reducible rfl | assumption | omega | rfl | (simp only [go_sem]; first | done | omega)) only [go_sem, ↓reduceIte, reduceCtorEq, Nat.reduceEqDiff, Nat.reduceAdd, Nat.reduceSub, Nat.reduceMul, Nat.reduceDiv, Nat.reduceMod, Nat.reduceLeDiff, Nat.reduceLT, Nat.reduceBEq, Int.reduceEq, Int.reduceBEq, Int.reduceBNe, Int.reduceLT, Int.reduceLE, Int.reduceAdd, Int.reduceSub, Int.reduceNeg, Int.reduceToNat, Int.reducePow, Nat.reducePow, Int.reduceMul, Int.reduceDiv, enterK_eq hcp, ck_some, hln]
        refine (hloop _).trans ?_
        simp (disch := first | with_reducible rfl | assumption | omega | rfl | (simp only [go_sem]; first | done | omega)) only [go_sem, ↓reduceIte, reduceCtorEq, Nat.reduceEqDiff, Nat.reduceAdd, Nat.reduceSub, Nat.reduceMul, Nat.reduceDiv, Nat.reduceMod, Nat.reduceLeDiff, Nat.reduceLT, Nat.reduceBEq, Int.reduceEq, Int.reduceBEq, Int.reduceBNe, Int.reduceLT, Int.reduceLE, Int.reduceAdd, Int.reduceSub, Int.reduceNeg, Int.reduceToNat, Int.reducePow, Nat.reducePow, Int.reduceMul, Int.reduceDiv, hln, decide_eq_false h0, enterK_eq hticks, enterK_eq hn5, enterK_eq hm5, hlw, enterK_eq hal, hl6, hadd]

theorem absHeap_okC (W : World) : Ok (absHeap W) := fun _ => Nat.zero_lt_one

theorem decI {W : World} {H : Type} {enc : TypeId × Value → H} {cs : List Value} {n : Nat} {y : DataW H × List MemPlace} (h : DataW.trod enc Try.prog W 0 (fun _ => true) true n T.int cs = some y) (hl : cs.length = EI.w) :
    ∃ a : Int, cs = EI.enc a ∧ True ∧ cs.all plain = true := by
  obtain ⟨c0, rfl⟩ : ∃ c0, cs = [c0] := by
    match cs, hl with
    | [c0], _ => exact ⟨_, rfl⟩
  obtain ⟨s0, rfl, _⟩ := dec_int Try.underlying3 h
  exact ⟨s0, rfl, trivial, rfl⟩

theorem run_ClockHolds (W : World) (now : Int) (_ : (Lit.int .i64 now).wf = true) (va : Value) (ats : List Int) (hra : Rd EI (absHeap W) va ats) (_ : ∀ a, a ∈ ats → True) (_ : ats.length ≤ maxLen) (vn : Value) (ns : List Int) (hrn : Rd EI (absHeap W) vn ns) (_ : ∀ a, a ∈ ns → True) (_ : ns.length ≤ maxLen) :
    ∃ k H', dCall Try.prog prims1 hints k F.law_ClockHolds [.int .i64 now, va, vn] (absHeap W) = some (.bool true, H') := by
  obtain ⟨H', h⟩ := q_ClockHolds now ats ns va vn (absHeap W) (absHeap_okC W) hra hrn
  obtain ⟨k, h⟩ := D_run h
  exact ⟨k, _, h⟩

end Go.Proofs.Ytldgonjihhndgaa

/-
  The seat's functions as terms over the engine's combinators (a program of ours printed it).
  Conditions: none. By an AI agent.
-/
set_option linter.unusedVariables false
namespace Go.Proofs.Ytldgonjihhndgaa
open Go Eng

/-! ticketline.ticketlinelaw02.ClockPlays -/

noncomputable def s_law_ClockPlays (mg : GT) (mc : CT) (ms : ST) (P : Program) (C : CallF) (L0 : Value → Value → Value → Value → Value → AHeap → K → Res) (L1 : Value → Value → Value → Value → Value → Value → Value → Value → AHeap → K → Res) (a0 : Value) (a1 : Value) (H : AHeap) (K0 : K) : Res :=
bareK (lenS a1) H fun t16 h1 =>
bareK (xbin P .gtr T.int (.tmp 16) (.const (.int .i64 60)) t16 (.int .i64 60)) h1 fun t17 h2 =>
mc t17 (fun k1 => enterK C F.law_known [] h2 fun t18 h3 =>
k1 .ret [(4, t18)] h3) (fun k1 =>
k1 .normal [(0, a0), (1, a1)] h2) (seqK (fun tT h4 =>
enterK C F.clock_New [(get tT 0)] h4 fun t21 h5 =>
bareK (xextract t21 0) h5 fun t22 h6 =>
bareK (xextract t21 1) h6 fun t23 h7 =>
enterK C F.ref02_Tick [(get tT 0)] h7 fun t25 h8 =>
bareK (xun P .not t25) h8 fun t26 h9 =>
mc t26 (fun k2 => bareK (xbin P .eql T.p_clock_Clock (.tmp 27) (.const (.pointer none)) t22 (.pointer none)) h9 fun t28 h10 =>
mg t28 true (fun o3 => o3 t23 h10) h10 fun t30 h11 =>
mg t28 true (fun o4 => bareK (xbin P .eql T.api_Errno (.tmp 30) (.const (.int .i64 2)) t30 (.int .i64 2)) h11 o4) h11 fun t31 h12 =>
pickK t28 t31 (.bool false) fun t32 =>
mg t32 true (fun o5 => enterK C F.law_known [] h12 o5) h12 fun t34 h13 =>
pickK t32 t34 (.bool false) fun t35 =>
k2 .ret [(4, t35)] h13) (fun k2 =>
k2 .normal [(0, (get tT 0)), (1, (get tT 1)), (5, t22), (6, t23)] h9) (seqK (fun tT_1 h14 =>
bareK (xbin P .eql T.p_clock_Clock (.tmp 36) (.const (.pointer none)) (get tT_1 5) (.pointer none)) h14 fun t37 h15 =>
mg t37 false (fun o6 => o6 (get tT_1 6) h15) h15 fun t39 h16 =>
mg t37 false (fun o7 => bareK (xbin P .neq T.api_Errno (.tmp 39) (.const (.int .i64 0)) t39 (.int .i64 0)) h16 o7) h16 fun t40 h17 =>
pickK t37 (.bool true) t40 fun t41 =>
mc t41 (fun k8 => k8 .ret [(4, (.bool false))] h17) (fun k8 =>
k8 .normal [(0, (get tT_1 0)), (1, (get tT_1 1)), (5, (get tT_1 5))] h17) (seqK (fun tT_2 h18 =>
bareK (bldS #[(.int .i64 0), (.slice none 0 0)] [(0, 1), (1, 1)] [(0, (get tT_2 0))]) h18 fun t43 h19 =>
bothK (newv T.ref02_Clock (.agg #[(.int .i64 0), (.slice none 0 0)]) h19) fun t7 h20 =>
quietK (stN 2 h20 t7 t43) fun _ h21 =>
bareK (lenS (get tT_2 1)) h21 fun t45 h22 =>
ms (fun k9 =>
L0 (get tT_2 5) t7 (get tT_2 1) t45 (.int .i64 0) h22 (blkK [] 0 k9)) (seqK (fun tT_3 h23 =>
enterK C F.law_known [] h23 fun t102 h24 =>
K0 .ret [(4, t102)] h24) K0)) K0)) K0)) K0)

noncomputable def s_law_ClockPlays_b0 (mg : GT) (mc : CT) (ms : ST) (P : Program) (C : CallF) (L0 : Value → Value → Value → Value → Value → AHeap → K → Res) (L1 : Value → Value → Value → Value → Value → Value → Value → Value → AHeap → K → Res) (v5 : Value) (v7 : Value) (v44 : Value) (v45 : Value) (v46 : Value) (H : AHeap) (k : K) : Res :=
bareK (xbin P .lss T.int (.tmp 46) (.tmp 45) v46 v45) H fun t47 h23 =>
mc t47 (fun k10 => k10 .normal [(5, v5), (7, v7), (44, v44), (45, v45), (46, v46)] h23) (fun k10 =>
k10 (.exit 0) [(47, t47), (5, v5), (7, v7), (44, v44), (45, v45), (46, v46)] h23) (seqK (fun tT h24 =>
ms (fun k11 =>
bareK (ixS 3 (get tT 44) (get tT 46)) h24 fun t48 h25 =>
bareK (ldN 3 h25 t48) h25 fun t49 h26 =>
bothK (newv T.law_Act (.agg #[(.int .i64 0), (.int .i64 0), (.int .i64 0)]) h26) fun t9 h27 =>
quietK (stN 3 h27 t9 t49) fun _ h28 =>
bareK (fad 0 t9) h28 fun t50 h29 =>
bareK (ld1 h29 t50) h29 fun t51 h30 =>
bareK (xbin P .lss T.int (.tmp 51) (.const (.int .i64 0)) t51 (.int .i64 0)) h30 fun t52 h31 =>
mg t52 false (fun o12 => bareK (fad 0 t9) h31 o12) h31 fun t54 h32 =>
mg t52 false (fun o13 => bareK (ld1 h32 t54) h32 o13) h32 fun t55 h33 =>
mg t52 false (fun o14 => bareK (xbin P .gtr T.int (.tmp 55) (.const (.int .i64 2)) t55 (.int .i64 2)) h33 o14) h33 fun t56 h34 =>
pickK t52 (.bool true) t56 fun t57 =>
mc t57 (fun k15 => enterK C F.clock_Clock_Copy [(get tT 5)] h34 fun t59 h35 =>
bareK (xbin P .eql T.p_clock_Clock (.tmp 60) (.const (.pointer none)) t59 (.pointer none)) h35 fun t61 h36 =>
mc t61 (fun k16 => k16 .ret [(4, (.bool false))] h36) (fun k16 =>
k16 .normal [(5, (get tT 5)), (7, (get tT 7)), (10, t59), (44, (get tT 44)), (45, (get tT 45)), (46, (get tT 46))] h36) (seqK (fun tT_1 h37 =>
enterK C F.clock_Clock_Set [(get tT_1 5), (.int .i64 1099511627776), (.int .i64 0)] h37 fun t63 h38 =>
enterK C F.clock_Clock_Tick [(get tT_1 5), (.int .i64 2305843009213693952)] h38 fun t65 h39 =>
k15 .normal [(5, (get tT_1 10)), (7, (get tT_1 7)), (44, (get tT_1 44)), (45, (get tT_1 45)), (46, (get tT_1 46))] h39) (afterK [5, 7, 44, 45, 46] k15))) (fun k15 =>
bareK (ldN 2 h34 (get tT 7)) h34 fun t69 h40 =>
bareK (ldN 3 h40 t9) h40 fun t70 h41 =>
enterK C F.law_acts [(get tT 5), t69, t70] h41 fun t71 h42 =>
bareK (xextract t71 0) h42 fun t72 h43 =>
bareK (xextract t71 1) h43 fun t73 h44 =>
bothK (newv T.ref02_Clock (.agg #[(.int .i64 0), (.slice none 0 0)]) h44) fun t11 h45 =>
quietK (stN 2 h45 t11 t72) fun _ h46 =>
bareK (xun P .not t73) h46 fun t75 h47 =>
mc t75 (fun k17 => k17 .ret [(4, (.bool false))] h47) (fun k17 =>
k17 .normal [(5, (get tT 5)), (7, (get tT 7)), (11, t11), (44, (get tT 44)), (45, (get tT 45)), (46, (get tT 46))] h47) (seqK (fun tT_2 h48 =>
bareK (ldN 2 h48 (get tT_2 11)) h48 fun t76 h49 =>
quietK (stN 2 h49 (get tT_2 7) t76) fun _ h50 =>
k15 .normal [(5, (get tT_2 5)), (7, (get tT_2 7)), (44, (get tT_2 44)), (45, (get tT_2 45)), (46, (get tT_2 46))] h50) (afterK [5, 7, 44, 45, 46] k15))) (seqK (fun tT_3 h51 =>
bareK (ldN 2 h51 (get tT_3 7)) h51 fun t78 h52 =>
enterK C F.law_looks [(get tT_3 5), t78] h52 fun t79 h53 =>
bareK (xun P .not t79) h53 fun t80 h54 =>
mc t80 (fun k18 => k18 .ret [(4, (.bool false))] h54) (fun k18 =>
k18 .normal [(5, (get tT_3 5)), (7, (get tT_3 7)), (44, (get tT_3 44)), (45, (get tT_3 45)), (46, (get tT_3 46))] h54) (seqK (fun tT_4 h55 =>
enterK C F.clock_Clock_Alarms [(get tT_4 5)] h55 fun t82 h56 =>
bareK (lenS t82) h56 fun t84 h57 =>
ms (fun k19 =>
L1 (get tT_4 5) (get tT_4 7) t82 (get tT_4 44) (get tT_4 45) (get tT_4 46) t84 (.int .i64 0) h57 (blkK [5, 7, 44, 45, 46] 2 k19)) (seqK (fun tT_5 h58 =>
bareK (ldN 2 h58 (get tT_5 7)) h58 fun t98 h59 =>
enterK C F.law_looks [(get tT_5 5), t98] h59 fun t99 h60 =>
bareK (xun P .not t99) h60 fun t100 h61 =>
mc t100 (fun k20 => k20 .ret [(4, (.bool false))] h61) (fun k20 =>
k20 .normal [(5, (get tT_5 5)), (7, (get tT_5 7)), (44, (get tT_5 44)), (45, (get tT_5 45)), (46, (get tT_5 46))] h61) (blkK [5, 7, 44, 45, 46] 1 k11)) (blkK [5, 7, 44, 45, 46] 1 k11))) (blkK [5, 7, 44, 45, 46] 1 k11))) (blkK [5, 7, 44, 45, 46] 1 k11))) (seqK (fun tT_6 h62 =>
bareK (xbin P .add T.int (.tmp 46) (.const (.int .i64 1)) (get tT_6 46) (.int .i64 1)) h62 fun t101 h63 =>
k .normal [(5, (get tT_6 5)), (7, (get tT_6 7)), (44, (get tT_6 44)), (45, (get tT_6 45)), (46, t101)] h63) (afterK [5, 7, 44, 45, 46] k))) (afterK [5, 7, 44, 45, 46] k))

noncomputable def s_law_ClockPlays_b1 (mg : GT) (mc : CT) (ms : ST) (P : Program) (C : CallF) (L0 : Value → Value → Value → Value → Value → AHeap → K → Res) (L1 : Value → Value → Value → Value → Value → Value → Value → Value → AHeap → K → Res) (v5 : Value) (v7 : Value) (v13 : Value) (v44 : Value) (v45 : Value) (v46 : Value) (v84 : Value) (v85 : Value) (H : AHeap) (k : K) : Res :=
bareK (xbin P .lss T.int (.tmp 85) (.tmp 84) v85 v84) H fun t86 h58 =>
mc t86 (fun k20 => k20 .normal [(5, v5), (7, v7), (13, v13), (44, v44), (45, v45), (46, v46), (84, v84), (85, v85)] h58) (fun k20 =>
k20 (.exit 2) [(86, t86), (5, v5), (7, v7), (13, v13), (44, v44), (45, v45), (46, v46), (84, v84), (85, v85)] h58) (seqK (fun tT h59 =>
ms (fun k21 =>
bareK (ixS 2 (get tT 13) (get tT 85)) h59 fun t90 h60 =>
bareK (fad 1 t90) h60 fun t91 h61 =>
bareK (ld1 h61 t91) h61 fun t92 h62 =>
bareK (xbin P .add T.int (.tmp 92) (.const (.int .i64 1)) t92 (.int .i64 1)) h62 fun t93 h63 =>
bareK (ixS 2 (get tT 13) (get tT 85)) h63 fun t94 h64 =>
bareK (fad 1 t94) h64 fun t95 h65 =>
quietK (st1 h65 t95 t93) fun _ h66 =>
k21 .normal [(5, (get tT 5)), (7, (get tT 7)), (13, (get tT 13)), (44, (get tT 44)), (45, (get tT 45)), (46, (get tT 46)), (84, (get tT 84)), (85, (get tT 85))] h66) (seqK (fun tT_1 h67 =>
bareK (xbin P .add T.int (.tmp 85) (.const (.int .i64 1)) (get tT_1 85) (.int .i64 1)) h67 fun t96 h68 =>
k .normal [(5, (get tT_1 5)), (7, (get tT_1 7)), (13, (get tT_1 13)), (44, (get tT_1 44)), (45, (get tT_1 45)), (46, (get tT_1 46)), (84, (get tT_1 84)), (85, t96)] h68) (afterK [5, 7, 13, 44, 45, 46, 84, 85] k))) (afterK [5, 7, 13, 44, 45, 46, 84, 85] k))

theorem s_law_ClockPlays_eq (M : CombL) (C : CallF) (LP : LoopH) (a0 : Value) (a1 : Value) (H : AHeap) : dBodyL M Try.prog hints C LP F.law_ClockPlays [a0, a1] H = s_law_ClockPlays M.b.g M.c M.s Try.prog C (fun v5 v7 v44 v45 v46 H k => loopL M Try.prog hints C LP F.law_ClockPlays 0 [(5, v5), (7, v7), (44, v44), (45, v45), (46, v46)] H k) (fun v5 v7 v13 v44 v45 v46 v84 v85 H k => loopL M Try.prog hints C LP F.law_ClockPlays 1 [(5, v5), (7, v7), (13, v13), (44, v44), (45, v45), (46, v46), (84, v84), (85, v85)] H k) a0 a1 H (endK Try.prog [.tmp 4]) := by kernel_rfl

theorem s_law_ClockPlays_b0_eq (M : CombL) (C : CallF) (LP : LoopH) (v5 : Value) (v7 : Value) (v44 : Value) (v45 : Value) (v46 : Value) (H : AHeap) (k : K) : bodyL M Try.prog hints C LP F.law_ClockPlays 0 [(5, v5), (7, v7), (44, v44), (45, v45), (46, v46)] H (afterK [5, 7, 44, 45, 46] k) = s_law_ClockPlays_b0 M.b.g M.c M.s Try.prog C (fun v5 v7 v44 v45 v46 H k => loopL M Try.prog hints C LP F.law_ClockPlays 0 [(5, v5), (7, v7), (44, v44), (45, v45), (46, v46)] H k) (fun v5 v7 v13 v44 v45 v46 v84 v85 H k => loopL M Try.prog hints C LP F.law_ClockPlays 1 [(5, v5), (7, v7), (13, v13), (44, v44), (45, v45), (46, v46), (84, v84), (85, v85)] H k) v5 v7 v44 v45 v46 H k := by kernel_rfl

theorem s_law_ClockPlays_b1_eq (M : CombL) (C : CallF) (LP : LoopH) (v5 : Value) (v7 : Value) (v13 : Value) (v44 : Value) (v45 : Value) (v46 : Value) (v84 : Value) (v85 : Value) (H : AHeap) (k : K) : bodyL M Try.prog hints C LP F.law_ClockPlays 1 [(5, v5), (7, v7), (13, v13), (44, v44), (45, v45), (46, v46), (84, v84), (85, v85)] H (afterK [5, 7, 13, 44, 45, 46, 84, 85] k) = s_law_ClockPlays_b1 M.b.g M.c M.s Try.prog C (fun v5 v7 v44 v45 v46 H k => loopL M Try.prog hints C LP F.law_ClockPlays 0 [(5, v5), (7, v7), (44, v44), (45, v45), (46, v46)] H k) (fun v5 v7 v13 v44 v45 v46 v84 v85 H k => loopL M Try.prog hints C LP F.law_ClockPlays 1 [(5, v5), (7, v7), (13, v13), (44, v44), (45, v45), (46, v46), (84, v84), (85, v85)] H k) v5 v7 v13 v44 v45 v46 v84 v85 H k := by kernel_rfl

end Go.Proofs.Ytldgonjihhndgaa

/-
  The equations of the seat's functions over calls in the limit (a program of ours printed it).
  Conditions: none. By an AI agent.
-/
set_option linter.unusedVariables false
namespace Go.Proofs.Ytldgonjihhndgaa
open Go Eng



noncomputable def l_law_ClockPlays_0 (v5 : Value) (v7 : Value) (v44 : Value) (v45 : Value) (v46 : Value) (H : AHeap) (k : K) : Res := loopL stdL Try.prog hints CC limLP F.law_ClockPlays 0 [(5, v5), (7, v7), (44, v44), (45, v45), (46, v46)] H k
noncomputable def l_law_ClockPlays_1 (v5 : Value) (v7 : Value) (v13 : Value) (v44 : Value) (v45 : Value) (v46 : Value) (v84 : Value) (v85 : Value) (H : AHeap) (k : K) : Res := loopL stdL Try.prog hints CC limLP F.law_ClockPlays 1 [(5, v5), (7, v7), (13, v13), (44, v44), (45, v45), (46, v46), (84, v84), (85, v85)] H k
theorem r_law_ClockPlays_0 (v5 : Value) (v7 : Value) (v44 : Value) (v45 : Value) (v46 : Value) (H : AHeap) (k : K) : l_law_ClockPlays_0 v5 v7 v44 v45 v46 H k = s_law_ClockPlays_b0 guardK condL shareL Try.prog CC l_law_ClockPlays_0 l_law_ClockPlays_1 v5 v7 v44 v45 v46 H (seqK (fun T H => l_law_ClockPlays_0 (get T 5) (get T 7) (get T 44) (get T 45) (get T 46) H k) k) := ((loopL_next (by kernel_rfl) rfl H k).trans (s_law_ClockPlays_b0_eq stdL CC limLP v5 v7 v44 v45 v46 H _)).trans (by kernel_rfl)
theorem r_law_ClockPlays_1 (v5 : Value) (v7 : Value) (v13 : Value) (v44 : Value) (v45 : Value) (v46 : Value) (v84 : Value) (v85 : Value) (H : AHeap) (k : K) : l_law_ClockPlays_1 v5 v7 v13 v44 v45 v46 v84 v85 H k = s_law_ClockPlays_b1 guardK condL shareL Try.prog CC l_law_ClockPlays_0 l_law_ClockPlays_1 v5 v7 v13 v44 v45 v46 v84 v85 H (seqK (fun T H => l_law_ClockPlays_1 (get T 5) (get T 7) (get T 13) (get T 44) (get T 45) (get T 46) (get T 84) (get T 85) H k) k) := ((loopL_next (by kernel_rfl) rfl H k).trans (s_law_ClockPlays_b1_eq stdL CC limLP v5 v7 v13 v44 v45 v46 v84 v85 H _)).trans (by kernel_rfl)
theorem d_law_ClockPlays (a0 : Value) (a1 : Value) (H : AHeap) {r : Value × AHeap} (h : s_law_ClockPlays guardK condL shareL Try.prog CC l_law_ClockPlays_0 l_law_ClockPlays_1 a0 a1 H (endK Try.prog [.tmp 4]) = some r) : CC F.law_ClockPlays [a0, a1] H = some (tidy H r) := D_body (by kernel_rfl) ((s_law_ClockPlays_eq stdL CC limLP a0 a1 H).trans (Eq.trans (show s_law_ClockPlays stdL.b.g stdL.c stdL.s Try.prog CC (fun v5 v7 v44 v45 v46 H k => loopL stdL Try.prog hints CC limLP F.law_ClockPlays 0 [(5, v5), (7, v7), (44, v44), (45, v45), (46, v46)] H k) (fun v5 v7 v13 v44 v45 v46 v84 v85 H k => loopL stdL Try.prog hints CC limLP F.law_ClockPlays 1 [(5, v5), (7, v7), (13, v13), (44, v44), (45, v45), (46, v46), (84, v84), (85, v85)] H k) a0 a1 H (endK Try.prog [.tmp 4]) = s_law_ClockPlays guardK condL shareL Try.prog CC l_law_ClockPlays_0 l_law_ClockPlays_1 a0 a1 H (endK Try.prog [.tmp 4]) by kernel_rfl) h))

end Go.Proofs.Ytldgonjihhndgaa

/-
  Chapter 02: acts; the law ClockPlays runs to true.
  Conditions: none. By an AI agent.
-/
set_option maxRecDepth 10000
set_option linter.unusedSimpArgs false
set_option linter.unusedVariables false
namespace Go.Proofs.Ytldgonjihhndgaa
open Go Eng

structure Inv (now : Int) (l : List Al) : Prop where
  srt : Srt l
  uni : Uniq l
  el : ∀ a, a ∈ l → 0 ≤ a.id ∧ isTick a.tm = true
  len : l.length ≤ 4096
  tick : isTick now = true

theorem uniq_insA {l : List Al} (hu : Uniq l) {a : Al} (ha : ∀ x, x ∈ l → x.id ≠ a.id) : Uniq (insA l a) := by
  unfold insA
  have e := List.take_append_drop (posA l a) l
  generalize l.take (posA l a) = A at *
  generalize l.drop (posA l a) = B at *
  subst e
  obtain ⟨h1, h2, h3⟩ := List.pairwise_append.1 hu
  refine List.pairwise_append.2 ⟨h1, List.pairwise_cons.2 ⟨fun x hx => fun h => ha x (List.mem_append_right _ hx) h.symm, h2⟩, fun x hx y hy => ?_⟩
  rcases List.mem_cons.1 hy with rfl | hy
  · exact ha x (List.mem_append_left _ hx)
  · exact h3 x hx y hy
theorem Inv.set {now : Int} {l : List Al} (v : Inv now l) (id tm : Int) : Inv now (setE l id tm).2 := by
  refine ⟨srt_setE v.srt id tm, ?_, fun a ha => ?_, len_setE' v.len id tm, v.tick⟩
  · unfold setE
    split
    · split
      · exact v.uni
      · rename_i h2
        split
        · exact v.uni
        · exact uniq_insA v.uni fun x hx => idx_none h2 x hx
    · exact v.uni
  · unfold setE at ha
    split at ha
    · rename_i h
      split at ha
      · exact v.el a ha
      · split at ha
        · exact v.el a ha
        · rcases mem_insA.1 ha with rfl | ha
          · exact h
          · exact v.el a ha
    · exact v.el a ha
theorem Inv.sub {now now' : Int} {l m : List Al} (v : Inv now l) (h : m.Sublist l) (ht : isTick now' = true) : Inv now' m :=
  ⟨List.Pairwise.sublist h v.srt, List.Pairwise.sublist h v.uni, fun a ha => v.el a (h.subset ha), Nat.le_trans h.length_le v.len, ht⟩
theorem Inv.clear {now : Int} {l : List Al} (v : Inv now l) (id : Int) : Inv now (clearE l id).2 := by
  unfold clearE
  split
  · exact v.sub List.filter_sublist v.tick
  · exact v

theorem q_acts_0 (what A B : Int) (b : Nat) (now : Int) (l : List Al) (a : Option Addr) (n k : Nat) (H : AHeap) (ok : Ok H) (c : Clk H b now l) (o : rowA H (.slice a n k) l) (v : Inv now l) (w0 : what = 0) :
    ∃ now' l' a' n' k' H', CC F.law_acts [.pointer (some ⟨b, 0, none⟩), .agg #[.int .i64 now, .slice a n k], .agg #[.int .i64 what, .int .i64 A, .int .i64 B]] H = some (.tuple #[.agg #[.int .i64 now', .slice a' n' k'], .bool true], H') ∧ Clk H' b now' l' ∧ rowA H' (.slice a' n' k') l' ∧ Fr (fun x => x = b) H H' ∧ Inv now' l' := by
  have hb : b < H.n := by obtain ⟨_, _, h, _⟩ := c; exact h
  generalize hA1 : H.push (.cells [.int .i64 now, .slice a n k] T.ref02_Clock true) = A1
  have s1 : Still H A1 := by rw [← hA1]; exact (Fr.refl H).push _
  have n1 : A1.n = H.n + 1 := by rw [← hA1]; rfl
  have f1 : A1.f H.n = .cells [.int .i64 now, .slice a n k] T.ref02_Clock true := by rw [← hA1]; exact push_f_eq rfl
  generalize hA2 : A1.push (.cells [.int .i64 what, .int .i64 A, .int .i64 B] T.law_Act true) = A2
  have s2 : Still A1 A2 := by rw [← hA2]; exact (Fr.refl A1).push _
  have n2 : A2.n = A1.n + 1 := by rw [← hA2]; rfl
  have f2 : A2.f A1.n = .cells [.int .i64 what, .int .i64 A, .int .i64 B] T.law_Act true := by rw [← hA2]; exact push_f_eq rfl
  generalize hA3 : A2.push (.cells [.int .i64 0, .slice none 0 0] T.ref02_Clock true) = A3
  have s3 : Still A2 A3 := by rw [← hA3]; exact (Fr.refl A2).push _
  have n3 : A3.n = A2.n + 1 := by rw [← hA3]; rfl
  have f3 : A3.f A2.n = .cells [.int .i64 0, .slice none 0 0] T.ref02_Clock true := by rw [← hA3]; exact push_f_eq rfl
  have f3a : A3.f A1.n = .cells [.int .i64 what, .int .i64 A, .int .i64 B] T.law_Act true := by rw [s3.f (by omega) (fun h => h), f2]
  have f3r : A3.f H.n = .cells [.int .i64 now, .slice a n k] T.ref02_Clock true := by rw [s3.f (by omega) (fun h => h), s2.f (by omega) (fun h => h), f1]
  have s03 : Still H A3 := (s1.still.then s2 fun _ _ h => h).still.then s3 fun _ _ h => h
  have o3 : rowA A3 (.slice a n k) l := Own.still o s03
  obtain ⟨a', n', k', A4, href, o4, s4⟩ := q_RSet l now A B a n k A3 o3 v.len
  have n4 : A3.n ≤ A4.n := s4.n
  generalize hA5 : (A4.push (.cells [.int .i64 0, .slice none 0 0] T.ref02_Clock true)).set A4.n (.cells [.int .i64 now, .slice a' n' k'] T.ref02_Clock true) = A5
  have s5 : Still A4 A5 := by rw [← hA5]; exact Fr.set ((Fr.refl A4).push _) _ _ (fun h => by omega)
  have n5 : A5.n = A4.n + 1 := by rw [← hA5]; rfl
  have f5 : A5.f A4.n = .cells [.int .i64 now, .slice a' n' k'] T.ref02_Clock true := by rw [← hA5]; exact set_f_eq
  have s45 : Still A3 A5 := s4.still.then s5 fun _ _ h => h
  have f5a : A5.f A1.n = .cells [.int .i64 what, .int .i64 A, .int .i64 B] T.law_Act true := by rw [s45.f (by omega) (fun h => h), f3a]
  have f5z : A5.f A2.n = .cells [.int .i64 0, .slice none 0 0] T.ref02_Clock true := by rw [s45.f (by omega) (fun h => h), f3]
  have s05 : Still H A5 := s03.still.then s45 fun _ _ h => h
  have c5 := c.still s05
  have o5 : rowA A5 (.slice a' n' k') (setE l A B).2 := Own.still o4 s5
  have ok5 : Ok A5 := ok.fr s05
  obtain ⟨A6, hcall, c6, fr6⟩ := q_setE b now A B l A5 ok5 c5 v.srt v.len
  have hdec : decide ((setE l A B).1 = (setE l A B).1) = true := decide_eq_true rfl
  have n6 : A5.n ≤ A6.n := fr6.n
  have f6z : A6.f A2.n = .cells [.int .i64 0, .slice none 0 0] T.ref02_Clock true := by rw [fr6.f (by omega) (by omega), f5z]
  have o6 : rowA A6 (.slice a' n' k') (setE l A B).2 := own_off o5 c5 (by decide) fr6
  have u6 : A6.ver A4.n = A5.ver A4.n := fr6.ver (by omega) (by omega)
  generalize hA7 : A6.set A2.n (.cells [.int .i64 now, .slice a' n' k'] T.ref02_Clock true) = A7
  have fr7 : Fr (fun c => c = A2.n) A6 A7 := by rw [← hA7]; exact Fr.set (Fr.refl A6) _ _ fun _ => rfl
  have f7 : A7.f A2.n = .cells [.int .i64 now, .slice a' n' k'] T.ref02_Clock true := by rw [← hA7]; exact set_f_eq
  have hty : ∀ c, c = A2.n → ∃ cs t m, A6.f c = .cells cs t m ∧ t = T.ref02_Clock := fun c hc => by subst hc; exact ⟨_, _, _, f6z, rfl⟩
  have c7 : Clk A7 b now (setE l A B).2 := c6.keepT fr7 (by omega) fun c hc => by obtain ⟨cs, t, m, e1, e2⟩ := hty c hc; exact ⟨cs, t, m, e1, by rw [e2]; decide⟩
  have o7 : rowA A7 (.slice a' n' k') (setE l A B).2 := Own.keepT o6 fr7 fun c hc => by obtain ⟨cs, t, m, e1, e2⟩ := hty c hc; exact ⟨cs, t, m, e1, by rw [e2]; decide⟩
  have frH : Fr (fun x => x = b) H A7 := (s05.still.then fr6 fun _ _ h => h).then fr7 fun c hc h => by omega
  obtain ⟨H', hx, r1, r2, r3⟩ := tidied2 (X := .tuple #[.agg #[.int .i64 now, .slice a' n' k'], .bool true]) ok c c7 frH o7 fun hg => row_bool o7 hg
  refine ⟨now, (setE l A B).2, a', n', k', H', (d_law_acts _ _ _ H (r := (.tuple #[.agg #[.int .i64 now, .slice a' n' k'], .bool true], A7)) ?_).trans (congrArg some hx), r1, r2, r3, v.set A B⟩
  simp (disch := first | with_reducible rfl | assumption | omega | rfl | (simp only [go_sem]; first | done | omega)) only [go_sem, ↓reduceIte, reduceCtorEq, Nat.reduceEqDiff, Nat.reduceAdd, Nat.reduceSub, Nat.reduceMul, Nat.reduceDiv, Nat.reduceMod, Nat.reduceLeDiff, Nat.reduceLT, Nat.reduceBEq, Int.reduceEq, Int.reduceBEq, Int.reduceBNe, Int.reduceLT, Int.reduceLE, Int.reduceAdd, Int.reduceSub, Int.reduceNeg, Int.reduceToNat, Int.reducePow, Nat.reducePow, Int.reduceMul, Int.reduceDiv, ↓s_law_acts, hA1, hA2, hA3, f3a, decide_eq_true w0, f3r, enterK_eq href, hA5, f5, f5a, enterK_eq hcall, hdec, f6z, hA7, f7]

theorem q_acts_1 (what A B : Int) (b : Nat) (now : Int) (l : List Al) (a : Option Addr) (n k : Nat) (H : AHeap) (ok : Ok H) (c : Clk H b now l) (o : rowA H (.slice a n k) l) (v : Inv now l) (w0 : ¬ what = 0) (w1 : what = 1) :
    ∃ now' l' a' n' k' H', CC F.law_acts [.pointer (some ⟨b, 0, none⟩), .agg #[.int .i64 now, .slice a n k], .agg #[.int .i64 what, .int .i64 A, .int .i64 B]] H = some (.tuple #[.agg #[.int .i64 now', .slice a' n' k'], .bool true], H') ∧ Clk H' b now' l' ∧ rowA H' (.slice a' n' k') l' ∧ Fr (fun x => x = b) H H' ∧ Inv now' l' := by
  have hb : b < H.n := by obtain ⟨_, _, h, _⟩ := c; exact h
  generalize hA1 : H.push (.cells [.int .i64 now, .slice a n k] T.ref02_Clock true) = A1
  have s1 : Still H A1 := by rw [← hA1]; exact (Fr.refl H).push _
  have n1 : A1.n = H.n + 1 := by rw [← hA1]; rfl
  have f1 : A1.f H.n = .cells [.int .i64 now, .slice a n k] T.ref02_Clock true := by rw [← hA1]; exact push_f_eq rfl
  generalize hA2 : A1.push (.cells [.int .i64 what, .int .i64 A, .int .i64 B] T.law_Act true) = A2
  have s2 : Still A1 A2 := by rw [← hA2]; exact (Fr.refl A1).push _
  have n2 : A2.n = A1.n + 1 := by rw [← hA2]; rfl
  have f2 : A2.f A1.n = .cells [.int .i64 what, .int .i64 A, .int .i64 B] T.law_Act true := by rw [← hA2]; exact push_f_eq rfl
  generalize hA3 : A2.push (.cells [.int .i64 0, .slice none 0 0] T.ref02_Clock true) = A3
  have s3 : Still A2 A3 := by rw [← hA3]; exact (Fr.refl A2).push _
  have n3 : A3.n = A2.n + 1 := by rw [← hA3]; rfl
  have f3 : A3.f A2.n = .cells [.int .i64 0, .slice none 0 0] T.ref02_Clock true := by rw [← hA3]; exact push_f_eq rfl
  have f3a : A3.f A1.n = .cells [.int .i64 what, .int .i64 A, .int .i64 B] T.law_Act true := by rw [s3.f (by omega) (fun h => h), f2]
  have f3r : A3.f H.n = .cells [.int .i64 now, .slice a n k] T.ref02_Clock true := by rw [s3.f (by omega) (fun h => h), s2.f (by omega) (fun h => h), f1]
  have s03 : Still H A3 := (s1.still.then s2 fun _ _ h => h).still.then s3 fun _ _ h => h
  have o3 : rowA A3 (.slice a n k) l := Own.still o s03
  obtain ⟨a', n', k', A4, href, o4, s4⟩ := q_RClear l now A a n k A3 o3 v.len
  have n4 : A3.n ≤ A4.n := s4.n
  generalize hA5 : (A4.push (.cells [.int .i64 0, .slice none 0 0] T.ref02_Clock true)).set A4.n (.cells [.int .i64 now, .slice a' n' k'] T.ref02_Clock true) = A5
  have s5 : Still A4 A5 := by rw [← hA5]; exact Fr.set ((Fr.refl A4).push _) _ _ (fun h => by omega)
  have n5 : A5.n = A4.n + 1 := by rw [← hA5]; rfl
  have f5 : A5.f A4.n = .cells [.int .i64 now, .slice a' n' k'] T.ref02_Clock true := by rw [← hA5]; exact set_f_eq
  have s45 : Still A3 A5 := s4.still.then s5 fun _ _ h => h
  have f5a : A5.f A1.n = .cells [.int .i64 what, .int .i64 A, .int .i64 B] T.law_Act true := by rw [s45.f (by omega) (fun h => h), f3a]
  have f5z : A5.f A2.n = .cells [.int .i64 0, .slice none 0 0] T.ref02_Clock true := by rw [s45.f (by omega) (fun h => h), f3]
  have s05 : Still H A5 := s03.still.then s45 fun _ _ h => h
  have c5 := c.still s05
  have o5 : rowA A5 (.slice a' n' k') (clearE l A).2 := Own.still o4 s5
  have ok5 : Ok A5 := ok.fr s05
  obtain ⟨A6, hcall, c6, fr6⟩ := q_clearE b now A l A5 ok5 c5 v.uni v.len
  have hdec : decide ((clearE l A).1 = (clearE l A).1) = true := decide_eq_true rfl
  have n6 : A5.n ≤ A6.n := fr6.n
  have f6z : A6.f A2.n = .cells [.int .i64 0, .slice none 0 0] T.ref02_Clock true := by rw [fr6.f (by omega) (by omega), f5z]
  have o6 : rowA A6 (.slice a' n' k') (clearE l A).2 := own_off o5 c5 (by decide) fr6
  have u6 : A6.ver A4.n = A5.ver A4.n := fr6.ver (by omega) (by omega)
  generalize hA7 : A6.set A2.n (.cells [.int .i64 now, .slice a' n' k'] T.ref02_Clock true) = A7
  have fr7 : Fr (fun c => c = A2.n) A6 A7 := by rw [← hA7]; exact Fr.set (Fr.refl A6) _ _ fun _ => rfl
  have f7 : A7.f A2.n = .cells [.int .i64 now, .slice a' n' k'] T.ref02_Clock true := by rw [← hA7]; exact set_f_eq
  have hty : ∀ c, c = A2.n → ∃ cs t m, A6.f c = .cells cs t m ∧ t = T.ref02_Clock := fun c hc => by subst hc; exact ⟨_, _, _, f6z, rfl⟩
  have c7 : Clk A7 b now (clearE l A).2 := c6.keepT fr7 (by omega) fun c hc => by obtain ⟨cs, t, m, e1, e2⟩ := hty c hc; exact ⟨cs, t, m, e1, by rw [e2]; decide⟩
  have o7 : rowA A7 (.slice a' n' k') (clearE l A).2 := Own.keepT o6 fr7 fun c hc => by obtain ⟨cs, t, m, e1, e2⟩ := hty c hc; exact ⟨cs, t, m, e1, by rw [e2]; decide⟩
  have frH : Fr (fun x => x = b) H A7 := (s05.still.then fr6 fun _ _ h => h).then fr7 fun c hc h => by omega
  obtain ⟨H', hx, r1, r2, r3⟩ := tidied2 (X := .tuple #[.agg #[.int .i64 now, .slice a' n' k'], .bool true]) ok c c7 frH o7 fun hg => row_bool o7 hg
  refine ⟨now, (clearE l A).2, a', n', k', H', (d_law_acts _ _ _ H (r := (.tuple #[.agg #[.int .i64 now, .slice a' n' k'], .bool true], A7)) ?_).trans (congrArg some hx), r1, r2, r3, v.clear A⟩
  simp (disch := first | with_reducible rfl | assumption | omega | rfl | (simp only [go_sem]; first | done | omega)) only [go_sem, ↓reduceIte, reduceCtorEq, Nat.reduceEqDiff, Nat.reduceAdd, Nat.reduceSub, Nat.reduceMul, Nat.reduceDiv, Nat.reduceMod, Nat.reduceLeDiff, Nat.reduceLT, Nat.reduceBEq, Int.reduceEq, Int.reduceBEq, Int.reduceBNe, Int.reduceLT, Int.reduceLE, Int.reduceAdd, Int.reduceSub, Int.reduceNeg, Int.reduceToNat, Int.reducePow, Nat.reducePow, Int.reduceMul, Int.reduceDiv, ↓s_law_acts, hA1, hA2, hA3, f3a, decide_eq_false w0, decide_eq_true w1, f3r, enterK_eq href, hA5, f5, f5a, enterK_eq hcall, hdec, f6z, hA7, f7]

theorem q_acts_2 (what A B : Int) (b : Nat) (now : Int) (l : List Al) (a : Option Addr) (n k : Nat) (H : AHeap) (ok : Ok H) (c : Clk H b now l) (o : rowA H (.slice a n k) l) (v : Inv now l) (w0 : ¬ what = 0) (w1 : ¬ what = 1) (hA : 0 ≤ A) :
    ∃ now' l' a' n' k' H', CC F.law_acts [.pointer (some ⟨b, 0, none⟩), .agg #[.int .i64 now, .slice a n k], .agg #[.int .i64 what, .int .i64 A, .int .i64 B]] H = some (.tuple #[.agg #[.int .i64 now', .slice a' n' k'], .bool true], H') ∧ Clk H' b now' l' ∧ rowA H' (.slice a' n' k') l' ∧ Fr (fun x => x = b) H H' ∧ Inv now' l' := by
  have hb : b < H.n := by obtain ⟨_, _, h, _⟩ := c; exact h
  generalize hA1 : H.push (.cells [.int .i64 now, .slice a n k] T.ref02_Clock true) = A1
  have s1 : Still H A1 := by rw [← hA1]; exact (Fr.refl H).push _
  have n1 : A1.n = H.n + 1 := by rw [← hA1]; rfl
  have f1 : A1.f H.n = .cells [.int .i64 now, .slice a n k] T.ref02_Clock true := by rw [← hA1]; exact push_f_eq rfl
  generalize hA2 : A1.push (.cells [.int .i64 what, .int .i64 A, .int .i64 B] T.law_Act true) = A2
  have s2 : Still A1 A2 := by rw [← hA2]; exact (Fr.refl A1).push _
  have n2 : A2.n = A1.n + 1 := by rw [← hA2]; rfl
  have f2 : A2.f A1.n = .cells [.int .i64 what, .int .i64 A, .int .i64 B] T.law_Act true := by rw [← hA2]; exact push_f_eq rfl
  generalize hA3 : A2.push (.cells [.int .i64 0, .slice none 0 0] T.ref02_Clock true) = A3
  have s3 : Still A2 A3 := by rw [← hA3]; exact (Fr.refl A2).push _
  have n3 : A3.n = A2.n + 1 := by rw [← hA3]; rfl
  have f3 : A3.f A2.n = .cells [.int .i64 0, .slice none 0 0] T.ref02_Clock true := by rw [← hA3]; exact push_f_eq rfl
  have f3a : A3.f A1.n = .cells [.int .i64 what, .int .i64 A, .int .i64 B] T.law_Act true := by rw [s3.f (by omega) (fun h => h), f2]
  have f3r : A3.f H.n = .cells [.int .i64 now, .slice a n k] T.ref02_Clock true := by rw [s3.f (by omega) (fun h => h), s2.f (by omega) (fun h => h), f1]
  have s03 : Still H A3 := (s1.still.then s2 fun _ _ h => h).still.then s3 fun _ _ h => h
  have o3 : rowA A3 (.slice a n k) l := Own.still o s03
  obtain ⟨a', n', k', d', A4, href, o4, od4, s4⟩ := q_RPass l now A a n k A3 o3 v.len v.tick hA
  have n4 : A3.n ≤ A4.n := s4.n
  generalize hA5 : (A4.push (.cells [.int .i64 0, .slice none 0 0] T.ref02_Clock true)).set A4.n (.cells [.int .i64 (due now A), .slice a' n' k'] T.ref02_Clock true) = A5
  have s5 : Still A4 A5 := by rw [← hA5]; exact Fr.set ((Fr.refl A4).push _) _ _ (fun h => by omega)
  have n5 : A5.n = A4.n + 1 := by rw [← hA5]; rfl
  have f5 : A5.f A4.n = .cells [.int .i64 (due now A), .slice a' n' k'] T.ref02_Clock true := by rw [← hA5]; exact set_f_eq
  have s45 : Still A3 A5 := s4.still.then s5 fun _ _ h => h
  have f5a : A5.f A1.n = .cells [.int .i64 what, .int .i64 A, .int .i64 B] T.law_Act true := by rw [s45.f (by omega) (fun h => h), f3a]
  have f5z : A5.f A2.n = .cells [.int .i64 0, .slice none 0 0] T.ref02_Clock true := by rw [s45.f (by omega) (fun h => h), f3]
  have s05 : Still H A5 := s03.still.then s45 fun _ _ h => h
  have c5 := c.still s05
  have o5 : rowA A5 (.slice a' n' k') (l.filter fun y => !dueB (due now A) y) := Own.still o4 s5
  have ok5 : Ok A5 := ok.fr s05
  obtain ⟨e1, e2⟩ := take_due v.srt (fun a ha => (v.el a ha).1) (due now A)
  obtain ⟨A6, hcall, c6, fr6⟩ := q_ticks b now A l (l.filter (dueB (due now A))) d' A5 ok5 c5 v.srt (by have := v.len; omega) v.tick hA (Own.still od4 s5) e1
  rw [e2] at c6
  have n6 : A5.n ≤ A6.n := fr6.n
  have f6z : A6.f A2.n = .cells [.int .i64 0, .slice none 0 0] T.ref02_Clock true := by rw [fr6.f (by omega) (by omega), f5z]
  have o6 : rowA A6 (.slice a' n' k') (l.filter fun y => !dueB (due now A) y) := own_off o5 c5 (by decide) fr6
  have u6 : A6.ver A4.n = A5.ver A4.n := fr6.ver (by omega) (by omega)
  generalize hA7 : A6.set A2.n (.cells [.int .i64 (due now A), .slice a' n' k'] T.ref02_Clock true) = A7
  have fr7 : Fr (fun c => c = A2.n) A6 A7 := by rw [← hA7]; exact Fr.set (Fr.refl A6) _ _ fun _ => rfl
  have f7 : A7.f A2.n = .cells [.int .i64 (due now A), .slice a' n' k'] T.ref02_Clock true := by rw [← hA7]; exact set_f_eq
  have hty : ∀ c, c = A2.n → ∃ cs t m, A6.f c = .cells cs t m ∧ t = T.ref02_Clock := fun c hc => by subst hc; exact ⟨_, _, _, f6z, rfl⟩
  have c7 : Clk A7 b (due now A) (l.filter fun y => !dueB (due now A) y) := c6.keepT fr7 (by omega) fun c hc => by obtain ⟨cs, t, m, e1, e2⟩ := hty c hc; exact ⟨cs, t, m, e1, by rw [e2]; decide⟩
  have o7 : rowA A7 (.slice a' n' k') (l.filter fun y => !dueB (due now A) y) := Own.keepT o6 fr7 fun c hc => by obtain ⟨cs, t, m, e1, e2⟩ := hty c hc; exact ⟨cs, t, m, e1, by rw [e2]; decide⟩
  have frH : Fr (fun x => x = b) H A7 := (s05.still.then fr6 fun _ _ h => h).then fr7 fun c hc h => by omega
  obtain ⟨H', hx, r1, r2, r3⟩ := tidied2 (X := .tuple #[.agg #[.int .i64 (due now A), .slice a' n' k'], .bool true]) ok c c7 frH o7 fun hg => row_bool o7 hg
  refine ⟨(due now A), (l.filter fun y => !dueB (due now A) y), a', n', k', H', (d_law_acts _ _ _ H (r := (.tuple #[.agg #[.int .i64 (due now A), .slice a' n' k'], .bool true], A7)) ?_).trans (congrArg some hx), r1, r2, r3, v.sub List.filter_sublist (due_tick v.tick hA).1⟩
  simp (disch := first | with_reducible rfl | assumption | omega | rfl | (simp only [go_sem]; first | done | omega)) only [go_sem, ↓reduceIte, reduceCtorEq, Nat.reduceEqDiff, Nat.reduceAdd, Nat.reduceSub, Nat.reduceMul, Nat.reduceDiv, Nat.reduceMod, Nat.reduceLeDiff, Nat.reduceLT, Nat.reduceBEq, Int.reduceEq, Int.reduceBEq, Int.reduceBNe, Int.reduceLT, Int.reduceLE, Int.reduceAdd, Int.reduceSub, Int.reduceNeg, Int.reduceToNat, Int.reducePow, Nat.reducePow, Int.reduceMul, Int.reduceDiv, ↓s_law_acts, hA1, hA2, hA3, f3a, decide_eq_false w0, decide_eq_false w1, f3r, enterK_eq href, hA5, f5, f5a, enterK_eq hcall, f6z, hA7, f7]

theorem q_acts_3 (what A B : Int) (b : Nat) (now : Int) (l : List Al) (a : Option Addr) (n k : Nat) (H : AHeap) (ok : Ok H) (c : Clk H b now l) (o : rowA H (.slice a n k) l) (v : Inv now l) (w0 : ¬ what = 0) (w1 : ¬ what = 1) (hA : ¬ 0 ≤ A) :
    ∃ now' l' a' n' k' H', CC F.law_acts [.pointer (some ⟨b, 0, none⟩), .agg #[.int .i64 now, .slice a n k], .agg #[.int .i64 what, .int .i64 A, .int .i64 B]] H = some (.tuple #[.agg #[.int .i64 now', .slice a' n' k'], .bool true], H') ∧ Clk H' b now' l' ∧ rowA H' (.slice a' n' k') l' ∧ Fr (fun x => x = b) H H' ∧ Inv now' l' := by
  have hb : b < H.n := by obtain ⟨_, _, h, _⟩ := c; exact h
  generalize hA1 : H.push (.cells [.int .i64 now, .slice a n k] T.ref02_Clock true) = A1
  have s1 : Still H A1 := by rw [← hA1]; exact (Fr.refl H).push _
  have n1 : A1.n = H.n + 1 := by rw [← hA1]; rfl
  have f1 : A1.f H.n = .cells [.int .i64 now, .slice a n k] T.ref02_Clock true := by rw [← hA1]; exact push_f_eq rfl
  generalize hA2 : A1.push (.cells [.int .i64 what, .int .i64 A, .int .i64 B] T.law_Act true) = A2
  have s2 : Still A1 A2 := by rw [← hA2]; exact (Fr.refl A1).push _
  have n2 : A2.n = A1.n + 1 := by rw [← hA2]; rfl
  have f2 : A2.f A1.n = .cells [.int .i64 what, .int .i64 A, .int .i64 B] T.law_Act true := by rw [← hA2]; exact push_f_eq rfl
  generalize hA3 : A2.push (.cells [.int .i64 0, .slice none 0 0] T.ref02_Clock true) = A3
  have s3 : Still A2 A3 := by rw [← hA3]; exact (Fr.refl A2).push _
  have n3 : A3.n = A2.n + 1 := by rw [← hA3]; rfl
  have f3 : A3.f A2.n = .cells [.int .i64 0, .slice none 0 0] T.ref02_Clock true := by rw [← hA3]; exact push_f_eq rfl
  have f3a : A3.f A1.n = .cells [.int .i64 what, .int .i64 A, .int .i64 B] T.law_Act true := by rw [s3.f (by omega) (fun h => h), f2]
  have f3r : A3.f H.n = .cells [.int .i64 now, .slice a n k] T.ref02_Clock true := by rw [s3.f (by omega) (fun h => h), s2.f (by omega) (fun h => h), f1]
  have s03 : Still H A3 := (s1.still.then s2 fun _ _ h => h).still.then s3 fun _ _ h => h
  have o3 : rowA A3 (.slice a n k) l := Own.still o s03
  obtain ⟨A4, href, o4, s4⟩ := q_RPass_bad l now A a n k A3 o3 hA
  have n4 : A3.n ≤ A4.n := s4.n
  generalize hA5 : (A4.push (.cells [.int .i64 0, .slice none 0 0] T.ref02_Clock true)).set A4.n (.cells [.int .i64 now, .slice a n k] T.ref02_Clock true) = A5
  have s5 : Still A4 A5 := by rw [← hA5]; exact Fr.set ((Fr.refl A4).push _) _ _ (fun h => by omega)
  have n5 : A5.n = A4.n + 1 := by rw [← hA5]; rfl
  have f5 : A5.f A4.n = .cells [.int .i64 now, .slice a n k] T.ref02_Clock true := by rw [← hA5]; exact set_f_eq
  have s45 : Still A3 A5 := s4.still.then s5 fun _ _ h => h
  have f5a : A5.f A1.n = .cells [.int .i64 what, .int .i64 A, .int .i64 B] T.law_Act true := by rw [s45.f (by omega) (fun h => h), f3a]
  have f5z : A5.f A2.n = .cells [.int .i64 0, .slice none 0 0] T.ref02_Clock true := by rw [s45.f (by omega) (fun h => h), f3]
  have s05 : Still H A5 := s03.still.then s45 fun _ _ h => h
  have c5 := c.still s05
  have o5 : rowA A5 (.slice a n k) l := Own.still o4 s5
  have ok5 : Ok A5 := ok.fr s05
  have hcall := q_ticks_bad b now A l A5 c5 hA
  have fr6 : Fr (fun x => x = b) A5 A5 := Fr.refl A5
  have c6 := c5
  have n6 : A5.n ≤ A5.n := Nat.le_refl _
  have f6z : A5.f A2.n = .cells [.int .i64 0, .slice none 0 0] T.ref02_Clock true := by rw [fr6.f (by omega) (by omega), f5z]
  have o6 : rowA A5 (.slice a n k) l := own_off o5 c5 (by decide) fr6
  have u6 : A5.ver A4.n = A5.ver A4.n := fr6.ver (by omega) (by omega)
  generalize hA7 : A5.set A2.n (.cells [.int .i64 now, .slice a n k] T.ref02_Clock true) = A7
  have fr7 : Fr (fun c => c = A2.n) A5 A7 := by rw [← hA7]; exact Fr.set (Fr.refl A5) _ _ fun _ => rfl
  have f7 : A7.f A2.n = .cells [.int .i64 now, .slice a n k] T.ref02_Clock true := by rw [← hA7]; exact set_f_eq
  have hty : ∀ c, c = A2.n → ∃ cs t m, A5.f c = .cells cs t m ∧ t = T.ref02_Clock := fun c hc => by subst hc; exact ⟨_, _, _, f6z, rfl⟩
  have c7 : Clk A7 b now l := c6.keepT fr7 (by omega) fun c hc => by obtain ⟨cs, t, m, e1, e2⟩ := hty c hc; exact ⟨cs, t, m, e1, by rw [e2]; decide⟩
  have o7 : rowA A7 (.slice a n k) l := Own.keepT o6 fr7 fun c hc => by obtain ⟨cs, t, m, e1, e2⟩ := hty c hc; exact ⟨cs, t, m, e1, by rw [e2]; decide⟩
  have frH : Fr (fun x => x = b) H A7 := (s05.still.then fr6 fun _ _ h => h).then fr7 fun c hc h => by omega
  obtain ⟨H', hx, r1, r2, r3⟩ := tidied2 (X := .tuple #[.agg #[.int .i64 now, .slice a n k], .bool true]) ok c c7 frH o7 fun hg => row_bool o7 hg
  refine ⟨now, l, a, n, k, H', (d_law_acts _ _ _ H (r := (.tuple #[.agg #[.int .i64 now, .slice a n k], .bool true], A7)) ?_).trans (congrArg some hx), r1, r2, r3, v⟩
  simp (disch := first | with_reducible rfl | assumption | omega | rfl | (simp only [go_sem]; first | done | omega)) only [go_sem, ↓reduceIte, reduceCtorEq, Nat.reduceEqDiff, Nat.reduceAdd, Nat.reduceSub, Nat.reduceMul, Nat.reduceDiv, Nat.reduceMod, Nat.reduceLeDiff, Nat.reduceLT, Nat.reduceBEq, Int.reduceEq, Int.reduceBEq, Int.reduceBNe, Int.reduceLT, Int.reduceLE, Int.reduceAdd, Int.reduceSub, Int.reduceNeg, Int.reduceToNat, Int.reducePow, Nat.reducePow, Int.reduceMul, Int.reduceDiv, ↓s_law_acts, hA1, hA2, hA3, f3a, decide_eq_false w0, decide_eq_false w1, f3r, enterK_eq href, hA5, f5, f5a, enterK_eq hcall, f6z, hA7, f7]

theorem q_acts (what A B : Int) (b : Nat) (now : Int) (l : List Al) (a : Option Addr) (n k : Nat) (H : AHeap) (ok : Ok H) (c : Clk H b now l) (o : rowA H (.slice a n k) l) (v : Inv now l) :
    ∃ now' l' a' n' k' H', CC F.law_acts [.pointer (some ⟨b, 0, none⟩), .agg #[.int .i64 now, .slice a n k], .agg #[.int .i64 what, .int .i64 A, .int .i64 B]] H = some (.tuple #[.agg #[.int .i64 now', .slice a' n' k'], .bool true], H') ∧ Clk H' b now' l' ∧ rowA H' (.slice a' n' k') l' ∧ Fr (fun x => x = b) H H' ∧ Inv now' l' := by
  by_cases w0 : what = 0
  · exact q_acts_0 what A B b now l a n k H ok c o v w0
  · by_cases w1 : what = 1
    · exact q_acts_1 what A B b now l a n k H ok c o v w0 w1
    · by_cases hA : 0 ≤ A
      · exact q_acts_2 what A B b now l a n k H ok c o v w0 w1 hA
      · exact q_acts_3 what A B b now l a n k H ok c o v w0 w1 hA

end Go.Proofs.Ytldgonjihhndgaa

/-
  Chapter 02: the law ClockPlays runs to true.
  Conditions: none. By an AI agent.
-/
set_option maxRecDepth 10000
set_option linter.unusedSimpArgs false
set_option linter.unusedVariables false
namespace Go.Proofs.Ytldgonjihhndgaa
open Go Eng

/-- A call. -/
structure Ac where
  what : Int
  a : Int
  b : Int
def EAc : Enc Ac := ⟨3, fun a => [.int .i64 a.what, .int .i64 a.a, .int .i64 a.b], fun _ => rfl, by decide, fun _ => rfl⟩

/-! ### What was returned is changed -/
theorem cells_set : ∀ (l : List Al) (i : Nat) (h : i < l.length) (z : Int), (EAl.cells l).set (i * 2 + 1) (.int .i64 z) = EAl.cells (l.set i ⟨l[i].id, z⟩)
  | [], _, h, _ => by simp at h
  | y :: l, 0, _, z => rfl
  | y :: l, i + 1, h, z => by
    have hi : i < l.length := by simpa using h
    have ih := cells_set l i hi z
    rw [List.set_cons_succ]
    show (.int .i64 y.id :: .int .i64 y.tm :: EAl.cells l).set ((i + 1) * 2 + 1) (.int .i64 z) = .int .i64 y.id :: .int .i64 y.tm :: EAl.cells (l.set i ⟨l[i].id, z⟩)
    rw [show (i + 1) * 2 + 1 = i * 2 + 1 + 1 + 1 by omega, List.set_cons_succ, List.set_cons_succ, ih]
theorem Own.bump {H : AHeap} {v : Value} {l : List Al} (r : rowA H v l) {i : Nat} (hi : i < l.length) (z : Int) :
    ∃ b o H', ixS 2 v (.int .i64 (i : Int)) = some (.pointer (some ⟨b, o, none⟩)) ∧ cellB (H.f b) (o + 1) = some (.int .i64 l[i].tm) ∧ setB H b (wr1 (H.f b) (o + 1) (.int .i64 z)) = some H' ∧ rowA H' v (l.set i ⟨l[i].id, z⟩) ∧ Fr (OnlyOf v) H H' := by
  obtain ⟨b', o', hix, _, hc, _⟩ := Rd.ix (Own.rd r) (q := .i64) hi
  have hix : ixS 2 v (.int .i64 (i : Int)) = some (.pointer (some ⟨b', o', none⟩)) := hix
  have hcell : cellB (H.f b') (o' + 1) = some (.int .i64 l[i].tm) := cutB_cell hc (i := 1) (by decide)
  rcases r with ⟨h, _⟩ | ⟨h, _⟩ | ⟨b, o, c, xs, rfl, hlc, hb, hf, ho, hx⟩
  · subst h; simp at hi
  · subst h; simp at hi
  · have hw : EAl.w = 2 := rfl
    rw [hw] at ho hx
    have hix2 : ixS 2 (.slice (some ⟨b, o, none⟩) l.length (2 * c + 1)) (.int .i64 (i : Int)) = some (.pointer (some ⟨b, o + i * 2, none⟩)) := ixS_nat hi
    rw [hix2] at hix
    cases hix
    refine ⟨b', o + i * 2, H.set b' (.cells (xs.set (o + i * 2 + 1) (.int .i64 z)) T.api_Alarm true), hix2, hcell, ?_, ?_, Fr.set (Fr.refl H) _ _ fun _ => rfl⟩
    · rw [hf, wr1_c (by omega) rfl, setB_s]
    · refine .inr (.inr ⟨b', o, c, _, by simp, by simpa using hlc, by simpa using hb, set_f_eq, by simpa [hw] using ho, ?_⟩)
      rw [List.length_set, hw, ← cells_set l i hi z, ← hx, List.drop_set, if_neg (by omega), show o + i * 2 + 1 - o = i * 2 + 1 by omega, List.take_set]

theorem l_bump (v5 v7 v13 w44 w45 w46 : Value) (n : Nat) (hn : n ≤ 4096) : ∀ (d i : Nat) (H : AHeap) (m : List Al), n - i = d → i ≤ n → m.length = n → (∀ a, a ∈ m.drop i → isTick a.tm = true) → rowA H v13 m → ∃ H', Fr (OnlyOf v13) H H' ∧
    ∀ K : K, l_law_ClockPlays_1 v5 v7 v13 w44 w45 w46 (.int .i64 (n : Int)) (.int .i64 (i : Int)) H (blkK [5, 7, 44, 45, 46] 2 K) = K .normal [(5, v5), (7, v7), (44, w44), (45, w45), (46, w46)] H'
  | 0, i, H, m, hd, hi, hm, ht, r => by
    have hlt : ¬ (i : Int) < (n : Int) := by omega
    refine ⟨H, Fr.refl H, fun K => ?_⟩
    rw [r_law_ClockPlays_1]
    simp (disch := first | with_reducible rfl | assumption | omega | rfl | (simp only [go_sem]; first | done | omega)) only [go_sem, ↓reduceIte, reduceCtorEq, Nat.reduceEqDiff, Nat.reduceAdd, Nat.reduceSub, Nat.reduceMul, Nat.reduceDiv, Nat.reduceMod, Nat.reduceLeDiff, Nat.reduceLT, Nat.reduceBEq, Int.reduceEq, Int.reduceBEq, Int.reduceBNe, Int.reduceLT, Int.reduceLE, Int.reduceAdd, Int.reduceSub, Int.reduceNeg, Int.reduceToNat, Int.reducePow, Nat.reducePow, Int.reduceMul, Int.reduceDiv, ↓s_law_ClockPlays_b1, hlt]
  | d + 1, i, H, m, hd, hi, hm, ht, r => by
    have hlt : (i : Int) < (n : Int) := by omega
    have him : i < m.length := by omega
    obtain ⟨b, o, H1, hix, hck, hset, r1, fr1⟩ := Own.bump r him (m[i].tm + 1)
    have htk := isTick_iff.1 (ht m[i] (List.mem_iff_getElem.2 ⟨0, by simp; omega, by simp⟩))
    obtain ⟨H', fr', ih⟩ := l_bump v5 v7 v13 w44 w45 w46 n hn d (i + 1) H1 (m.set i ⟨m[i].id, m[i].tm + 1⟩) (by omega) (by omega) (by simpa using hm) (fun a ha => by
      rw [List.drop_set_of_lt (by omega)] at ha
      refine ht a ?_
      rw [List.drop_eq_getElem_cons him]
      exact List.mem_cons_of_mem _ ha) r1
    refine ⟨H', fr1.then fr' fun _ _ h => h, fun K => ?_⟩
    have ih := ih K
    rw [Int.natCast_add] at ih
    generalize m[i].tm = tm at *
    have hadd : -9223372036854775808 ≤ tm + 1 ∧ tm + 1 < 9223372036854775808 := by omega
    rw [r_law_ClockPlays_1]
    simp (disch := first | with_reducible rfl | assumption | omega | rfl | (simp only [go_sem]; first | done | omega)) only [go_sem, ↓reduceIte, reduceCtorEq, Nat.reduceEqDiff, Nat.reduceAdd, Nat.reduceSub, Nat.reduceMul, Nat.reduceDiv, Nat.reduceMod, Nat.reduceLeDiff, Nat.reduceLT, Nat.reduceBEq, Int.reduceEq, Int.reduceBEq, Int.reduceBNe, Int.reduceLT, Int.reduceLE, Int.reduceAdd, Int.reduceSub, Int.reduceNeg, Int.reduceToNat, Int.reducePow, Nat.reducePow, Int.reduceMul, Int.reduceDiv, ↓s_law_ClockPlays_b1, hlt, hix, hck, hset]
    exact ih

/-! ### The clock and the reference's -/
structure Cp (Hz H : AHeap) (bc br : Nat) (now : Int) (l : List Al) (a : Option Addr) (n k : Nat) : Prop where
  ok : Ok H
  base : Still Hz H
  c : Clk H bc now l
  r : H.f br = .cells [.int .i64 now, .slice a n k] T.ref02_Clock true
  rn : br < H.n
  o : rowA H (.slice a n k) l
  lo : Hz.n ≤ bc
  lor : Hz.n ≤ br
  inv : Inv now l
theorem Cp.ne {Hz H : AHeap} {bc br : Nat} {now : Int} {l : List Al} {a : Option Addr} {n k : Nat} (t : Cp Hz H bc br now l a n k) : br ≠ bc := fun h => by
  obtain ⟨v, h1, _⟩ := t.c
  have h2 := t.r
  rw [h, h1] at h2
  cases h2
theorem Cp.still {Hz H H' : AHeap} {bc br : Nat} {now : Int} {l : List Al} {a : Option Addr} {n k : Nat} (t : Cp Hz H bc br now l a n k) (s : Still H H') : Cp Hz H' bc br now l a n k :=
  ⟨t.ok.fr s, t.base.still.then s fun _ _ h => h, t.c.still s, by rw [s.f t.rn (fun h => h), t.r], Nat.lt_of_lt_of_le t.rn s.n, Own.still t.o s, t.lo, t.lor, t.inv⟩

/-- What is looked at behind a call. -/
theorem Cp.tail {Hz H : AHeap} {bc br : Nat} {now : Int} {l : List Al} {a : Option Addr} {n k : Nat} (t : Cp Hz H bc br now l a n k) (w44 w45 w46 : Value) :
    ∃ v13 H1 H2, CC F.law_looks [.pointer (some ⟨bc, 0, none⟩), .agg #[.int .i64 now, .slice a n k]] H = some (.bool true, H) ∧ CC F.clock_Clock_Alarms [.pointer (some ⟨bc, 0, none⟩)] H = some (v13, H1) ∧ lenS v13 = some (.int .i64 (l.length : Int)) ∧
      (∀ K : K, l_law_ClockPlays_1 (.pointer (some ⟨bc, 0, none⟩)) (.pointer (some ⟨br, 0, none⟩)) v13 w44 w45 w46 (.int .i64 (l.length : Int)) (.int .i64 0) H1 (blkK [5, 7, 44, 45, 46] 2 K) = K .normal [(5, .pointer (some ⟨bc, 0, none⟩)), (7, .pointer (some ⟨br, 0, none⟩)), (44, w44), (45, w45), (46, w46)] H2) ∧
      CC F.law_looks [.pointer (some ⟨bc, 0, none⟩), .agg #[.int .i64 now, .slice a n k]] H2 = some (.bool true, H2) ∧ Cp Hz H2 bc br now l a n k := by
  obtain ⟨v13, H1, hal, o1, s1, new⟩ := q_Alarms bc now l H t.c (by have := t.inv.len; omega)
  have t1 := t.still s1
  obtain ⟨H2, fr2, hloop⟩ := l_bump (.pointer (some ⟨bc, 0, none⟩)) (.pointer (some ⟨br, 0, none⟩)) v13 w44 w45 w46 l.length t.inv.len l.length 0 H1 l (by omega) (by omega) rfl (fun x hx => (t.inv.el x (by simpa using hx)).2) o1
  have hbc : bc < H.n := by obtain ⟨_, _, h, _⟩ := t.c; exact h
  have hz := t.base.n
  have n1 : H.n ≤ H1.n := s1.n
  have s2 : Still H H2 := s1.still.then fr2 fun c hc h => by have := new c h; omega
  exact ⟨v13, H1, H2, q_looks bc now l a n k H t.c t.o t.inv.len, hal, o1.rd.lenS, hloop, q_looks bc now l a n k H2 (t.still s2).c (t.still s2).o t.inv.len, t.still s2⟩

theorem s_ClPlays_copy (l : List Ac) (v : Value) (bc br : Nat) (Hz H : AHeap) (hr0 : Rd EAc Hz v l) (hlb : l.length ≤ 1000) (i : Nat) (ac : Ac) (h : i < l.length) (hxa : l[i] = ac) (now : Int) (al : List Al) (a : Option Addr) (n k : Nat) (t : Cp Hz H bc br now al a n k) (hc : ac.what < 0 ∨ 2 < ac.what) :
    ∃ H' bc' now' al' a' n' k', Cp Hz H' bc' br now' al' a' n' k' ∧ ∀ K : K,
      l_law_ClockPlays_0 (.pointer (some ⟨bc, 0, none⟩)) (.pointer (some ⟨br, 0, none⟩)) v (.int .i64 (l.length : Int)) (.int .i64 (i : Int)) H (blkK [] 0 K) = l_law_ClockPlays_0 (.pointer (some ⟨bc', 0, none⟩)) (.pointer (some ⟨br, 0, none⟩)) v (.int .i64 (l.length : Int)) (.int .i64 ((i + 1 : Nat) : Int)) H' (blkK [] 0 K) := by
  have hlt : (i : Int) < (l.length : Int) := by omega
  obtain ⟨b1, o1, hix, hb1, hc1, _⟩ := (hr0.still t.base).ix (q := .i64) h
  rw [hxa] at hc1
  have hix : ixS 3 v (.int .i64 i) = some (.pointer (some ⟨b1, o1, none⟩)) := hix
  have hc1 : cutB (H.f b1) o1 3 = some [.int .i64 ac.what, .int .i64 ac.a, .int .i64 ac.b] := hc1
  generalize hHa : (H.push (.cells [.int .i64 0, .int .i64 0, .int .i64 0] T.law_Act true)).set H.n (.cells [.int .i64 ac.what, .int .i64 ac.a, .int .i64 ac.b] T.law_Act true) = Ha
  have sa : Still H Ha := by rw [← hHa]; exact Fr.set ((Fr.refl H).push _) _ _ (fun h => by omega)
  have fa : Ha.f H.n = .cells [.int .i64 ac.what, .int .i64 ac.a, .int .i64 ac.b] T.law_Act true := by rw [← hHa]; exact set_f_eq
  have ta := t.still sa
  obtain ⟨bd, H1, hcp, d1, s1, hbd⟩ := q_Copy bc now al Ha ta.c (by have := t.inv.len; omega)
  have t1 := ta.still s1
  have hne : bd ≠ bc := by obtain ⟨_, _, h, _⟩ := ta.c; omega
  obtain ⟨H2, hset, c2, fr2⟩ := q_setE bc now 1099511627776 0 al H1 t1.ok t1.c t1.inv.srt t1.inv.len
  have inv2 := t1.inv.set 1099511627776 0
  have d2 := d1.other t1.c hne fr2
  have o2 := own_off t1.o t1.c (by decide) fr2
  obtain ⟨v3, H3, htick, _, c3, fr3, _⟩ := q_tickE bc now 2305843009213693952 _ H2 (t1.ok.fr fr2) c2 inv2.srt (by have := inv2.len; omega) inv2.tick (by omega)
  have d3 := d2.other c2 hne fr3
  have o3 := own_off o2 c2 (by decide) fr3
  have nbr := t1.ne
  have hz := ta.base.n
  have n1 : Ha.n ≤ H1.n := s1.n
  have t3 : Cp Hz H3 bd br now al a n k := ⟨(t1.ok.fr fr2).fr fr3, (t1.base.still.then fr2 fun c hc h => by have := t1.lo; omega).still.then fr3 fun c hc h => by have := t1.lo; omega, d3,
    by rw [fr3.f (Nat.lt_of_lt_of_le t1.rn fr2.n) nbr, fr2.f t1.rn nbr, t1.r], Nat.lt_of_lt_of_le (Nat.lt_of_lt_of_le t1.rn fr2.n) fr3.n, o3, by omega, t1.lor, t1.inv⟩
  obtain ⟨v13, H4, H5, hl1, hal, hlen, hloop, hl2, t5⟩ := t3.tail v (.int .i64 (l.length : Int)) (.int .i64 (i : Int))
  have f3r := t3.r
  have f5r := t5.r
  refine ⟨H5, bd, now, al, a, n, k, t5, fun K => ?_⟩
  rw [r_law_ClockPlays_0, Int.natCast_add]
  generalize (setE al 1099511627776 0).1 = e at hset
  by_cases hneg : ac.what < 0
  · simp (disch := first | with_reducible rfl | assumption | omega | rfl | (simp only [go_sem]; first | done | omega)) only [go_sem, ↓reduceIte, reduceCtorEq, Nat.reduceEqDiff, Nat.reduceAdd, Nat.reduceSub, Nat.reduceMul, Nat.reduceDiv, Nat.reduceMod, Nat.reduceLeDiff, Nat.reduceLT, Nat.reduceBEq, Int.reduceEq, Int.reduceBEq, Int.reduceBNe, Int.reduceLT, Int.reduceLE, Int.reduceAdd, Int.reduceSub, Int.reduceNeg, Int.reduceToNat, Int.reducePow, Nat.reducePow, Int.reduceMul, Int.reduceDiv, ↓s_law_ClockPlays_b0, hlt, hix, hc1, hHa, fa, decide_eq_true hneg, enterK_eq hcp, ck_some, enterK_eq hset, enterK_eq htick, f3r, enterK_eq hl1, enterK_eq hal, hlen]
    refine (hloop _).trans ?_
    simp (disch := first | with_reducible rfl | assumption | omega | rfl | (simp only [go_sem]; first | done | omega)) only [go_sem, ↓reduceIte, reduceCtorEq, Nat.reduceEqDiff, Nat.reduceAdd, Nat.reduceSub, Nat.reduceMul, Nat.reduceDiv, Nat.reduceMod, Nat.reduceLeDiff, Nat.reduceLT, Nat.reduceBEq, Int.reduceEq, Int.reduceBEq, Int.reduceBNe, Int.reduceLT, Int.reduceLE, Int.reduceAdd, Int.reduceSub, Int.reduceNeg, Int.reduceToNat, Int.reducePow, Nat.reducePow, Int.reduceMul, Int.reduceDiv, f5r, enterK_eq hl2]
  · have h2 : 2 < ac.what := by omega
    simp (disch := first | with_reducible rfl | assumption | omega | rfl | (simp only [go_sem]; first | done | omega)) only [go_sem, ↓reduceIte, reduceCtorEq, Nat.reduceEqDiff, Nat.reduceAdd, Nat.reduceSub, Nat.reduceMul, Nat.reduceDiv, Nat.reduceMod, Nat.reduceLeDiff, Nat.reduceLT, Nat.reduceBEq, Int.reduceEq, Int.reduceBEq, Int.reduceBNe, Int.reduceLT, Int.reduceLE, Int.reduceAdd, Int.reduceSub, Int.reduceNeg, Int.reduceToNat, Int.reducePow, Nat.reducePow, Int.reduceMul, Int.reduceDiv, ↓s_law_ClockPlays_b0, hlt, hix, hc1, hHa, fa, decide_eq_false hneg, decide_eq_true h2, enterK_eq hcp, ck_some, enterK_eq hset, enterK_eq htick, f3r, enterK_eq hl1, enterK_eq hal, hlen]
    refine (hloop _).trans ?_
    simp (disch := first | with_reducible rfl | assumption | omega | rfl | (simp only [go_sem]; first | done | omega)) only [go_sem, ↓reduceIte, reduceCtorEq, Nat.reduceEqDiff, Nat.reduceAdd, Nat.reduceSub, Nat.reduceMul, Nat.reduceDiv, Nat.reduceMod, Nat.reduceLeDiff, Nat.reduceLT, Nat.reduceBEq, Int.reduceEq, Int.reduceBEq, Int.reduceBNe, Int.reduceLT, Int.reduceLE, Int.reduceAdd, Int.reduceSub, Int.reduceNeg, Int.reduceToNat, Int.reducePow, Nat.reducePow, Int.reduceMul, Int.reduceDiv, f5r, enterK_eq hl2]

theorem s_ClPlays_act (l : List Ac) (v : Value) (bc br : Nat) (Hz H : AHeap) (hr0 : Rd EAc Hz v l) (hlb : l.length ≤ 1000) (i : Nat) (ac : Ac) (h : i < l.length) (hxa : l[i] = ac) (now : Int) (al : List Al) (a : Option Addr) (n k : Nat) (t : Cp Hz H bc br now al a n k) (hc : ¬ (ac.what < 0 ∨ 2 < ac.what)) :
    ∃ H' bc' now' al' a' n' k', Cp Hz H' bc' br now' al' a' n' k' ∧ ∀ K : K,
      l_law_ClockPlays_0 (.pointer (some ⟨bc, 0, none⟩)) (.pointer (some ⟨br, 0, none⟩)) v (.int .i64 (l.length : Int)) (.int .i64 (i : Int)) H (blkK [] 0 K) = l_law_ClockPlays_0 (.pointer (some ⟨bc', 0, none⟩)) (.pointer (some ⟨br, 0, none⟩)) v (.int .i64 (l.length : Int)) (.int .i64 ((i + 1 : Nat) : Int)) H' (blkK [] 0 K) := by
  have hlt : (i : Int) < (l.length : Int) := by omega
  obtain ⟨b1, o1, hix, hb1, hc1, _⟩ := (hr0.still t.base).ix (q := .i64) h
  rw [hxa] at hc1
  have hix : ixS 3 v (.int .i64 i) = some (.pointer (some ⟨b1, o1, none⟩)) := hix
  have hc1 : cutB (H.f b1) o1 3 = some [.int .i64 ac.what, .int .i64 ac.a, .int .i64 ac.b] := hc1
  generalize hHa : (H.push (.cells [.int .i64 0, .int .i64 0, .int .i64 0] T.law_Act true)).set H.n (.cells [.int .i64 ac.what, .int .i64 ac.a, .int .i64 ac.b] T.law_Act true) = Ha
  have sa : Still H Ha := by rw [← hHa]; exact Fr.set ((Fr.refl H).push _) _ _ (fun h => by omega)
  have fa : Ha.f H.n = .cells [.int .i64 ac.what, .int .i64 ac.a, .int .i64 ac.b] T.law_Act true := by rw [← hHa]; exact set_f_eq
  have ta := t.still sa
  have far := ta.r
  obtain ⟨now', al', a', n', k', H1, hact, c1, o1', fr1, inv1⟩ := q_acts ac.what ac.a ac.b bc now al a n k Ha ta.ok ta.c ta.o ta.inv
  have nbr := ta.ne
  have f1r : H1.f br = .cells [.int .i64 now, .slice a n k] T.ref02_Clock true := by rw [fr1.f ta.rn nbr, ta.r]
  have n1 : Ha.n ≤ H1.n := fr1.n
  have hbrn := ta.rn
  generalize hH2 : (H1.push (.cells [.int .i64 0, .slice none 0 0] T.ref02_Clock true)).set H1.n (.cells [.int .i64 now', .slice a' n' k'] T.ref02_Clock true) = H2
  have s2 : Still H1 H2 := by rw [← hH2]; exact Fr.set ((Fr.refl H1).push _) _ _ (fun h => by omega)
  have n2 : H2.n = H1.n + 1 := by rw [← hH2]; rfl
  have f2 : H2.f H1.n = .cells [.int .i64 now', .slice a' n' k'] T.ref02_Clock true := by rw [← hH2]; exact set_f_eq
  have f2r : H2.f br = .cells [.int .i64 now, .slice a n k] T.ref02_Clock true := by rw [s2.f (by omega) (fun h => h), f1r]
  generalize hH3 : H2.set br (.cells [.int .i64 now', .slice a' n' k'] T.ref02_Clock true) = H3
  have fr3 : Fr (fun c => c = br) H2 H3 := by rw [← hH3]; exact Fr.set (Fr.refl H2) _ _ fun _ => rfl
  have f3r : H3.f br = .cells [.int .i64 now', .slice a' n' k'] T.ref02_Clock true := by rw [← hH3]; exact set_f_eq
  have hty : ∀ c, c = br → ∃ cs t m, H2.f c = .cells cs t m ∧ t = T.ref02_Clock := fun c hc => by subst hc; exact ⟨_, _, _, f2r, rfl⟩
  have hz := ta.base.n
  have t3 : Cp Hz H3 bc br now' al' a' n' k' := ⟨((ta.ok.fr fr1).fr s2).fr fr3, (((ta.base.still.then fr1 fun c hc h => by have := ta.lo; omega).still.then s2 fun _ _ h => h).still.then fr3 fun c hc h => by have := ta.lor; omega),
    (c1.still s2).keepT fr3 (fun h => nbr h.symm) fun c hc => by obtain ⟨cs, t, m, e1, e2⟩ := hty c hc; exact ⟨cs, t, m, e1, by rw [e2]; decide⟩,
    f3r, by have := fr3.n; omega, Own.keepT (Own.still o1' s2) fr3 fun c hc => by obtain ⟨cs, t, m, e1, e2⟩ := hty c hc; exact ⟨cs, t, m, e1, by rw [e2]; decide⟩, ta.lo, ta.lor, inv1⟩
  obtain ⟨v13, H4, H5, hl1, hal, hlen, hloop, hl2, t5⟩ := t3.tail v (.int .i64 (l.length : Int)) (.int .i64 (i : Int))
  have f5r := t5.r
  have hneg : ¬ ac.what < 0 := fun h => hc (.inl h)
  have h2 : ¬ 2 < ac.what := fun h => hc (.inr h)
  refine ⟨H5, bc, now', al', a', n', k', t5, fun K => ?_⟩
  rw [r_law_ClockPlays_0, Int.natCast_add]
  simp (disch := first | with_reducible rfl | assumption | omega | rfl | (simp only [go_sem]; first | done | omega)) only [go_sem, ↓reduceIte, reduceCtorEq, Nat.reduceEqDiff, Nat.reduceAdd, Nat.reduceSub, Nat.reduceMul, Nat.reduceDiv, Nat.reduceMod, Nat.reduceLeDiff, Nat.reduceLT, Nat.reduceBEq, Int.reduceEq, Int.reduceBEq, Int.reduceBNe, Int.reduceLT, Int.reduceLE, Int.reduceAdd, Int.reduceSub, Int.reduceNeg, Int.reduceToNat, Int.reducePow, Nat.reducePow, Int.reduceMul, Int.reduceDiv, ↓s_law_ClockPlays_b0, hlt, hix, hc1, hHa, fa, decide_eq_false hneg, decide_eq_false h2, far, enterK_eq hact, hH2, f2, f2r, hH3, f3r, enterK_eq hl1, enterK_eq hal, hlen]
  refine (hloop _).trans ?_
  simp (disch := first | with_reducible rfl | assumption | omega | rfl | (simp only [go_sem]; first | done | omega)) only [go_sem, ↓reduceIte, reduceCtorEq, Nat.reduceEqDiff, Nat.reduceAdd, Nat.reduceSub, Nat.reduceMul, Nat.reduceDiv, Nat.reduceMod, Nat.reduceLeDiff, Nat.reduceLT, Nat.reduceBEq, Int.reduceEq, Int.reduceBEq, Int.reduceBNe, Int.reduceLT, Int.reduceLE, Int.reduceAdd, Int.reduceSub, Int.reduceNeg, Int.reduceToNat, Int.reducePow, Nat.reducePow, Int.reduceMul, Int.reduceDiv, f5r, enterK_eq hl2]

theorem l_ClPlays (l : List Ac) (v : Value) (br : Nat) (Hz : AHeap) (hr0 : Rd EAc Hz v l) (hlb : l.length ≤ 1000) : ∀ (x : List Ac) (i : Nat) (H : AHeap) (bc : Nat) (now : Int) (al : List Al) (a : Option Addr) (n k : Nat), l.drop i = x → Cp Hz H bc br now al a n k → ∃ H', ∀ K : K,
    l_law_ClockPlays_0 (.pointer (some ⟨bc, 0, none⟩)) (.pointer (some ⟨br, 0, none⟩)) v (.int .i64 (l.length : Int)) (.int .i64 (i : Int)) H (blkK [] 0 K) = K .normal [] H'
  | [], i, H, bc, now, al, a, n, k, hx, t => by
    have h : l.length ≤ i := List.drop_eq_nil_iff.1 hx
    have hlt : ¬ (i : Int) < (l.length : Int) := by omega
    refine ⟨H, fun K => ?_⟩
    rw [r_law_ClockPlays_0]
    simp (disch := first | with_reducible rfl | assumption | omega | rfl | (simp only [go_sem]; first | done | omega)) only [go_sem, ↓reduceIte, reduceCtorEq, Nat.reduceEqDiff, Nat.reduceAdd, Nat.reduceSub, Nat.reduceMul, Nat.reduceDiv, Nat.reduceMod, Nat.reduceLeDiff, Nat.reduceLT, Nat.reduceBEq, Int.reduceEq, Int.reduceBEq, Int.reduceBNe, Int.reduceLT, Int.reduceLE, Int.reduceAdd, Int.reduceSub, Int.reduceNeg, Int.reduceToNat, Int.reducePow, Nat.reducePow, Int.reduceMul, Int.reduceDiv, ↓s_law_ClockPlays_b0, hlt]
  | ac :: x, i, H, bc, now, al, a, n, k, hx, t => by
    obtain ⟨h, hxa, hx'⟩ := drop_cons hx
    have step : ∃ H' bc' now' al' a' n' k', Cp Hz H' bc' br now' al' a' n' k' ∧ ∀ K : K,
        l_law_ClockPlays_0 (.pointer (some ⟨bc, 0, none⟩)) (.pointer (some ⟨br, 0, none⟩)) v (.int .i64 (l.length : Int)) (.int .i64 (i : Int)) H (blkK [] 0 K) = l_law_ClockPlays_0 (.pointer (some ⟨bc', 0, none⟩)) (.pointer (some ⟨br, 0, none⟩)) v (.int .i64 (l.length : Int)) (.int .i64 ((i + 1 : Nat) : Int)) H' (blkK [] 0 K) := by
      by_cases hc : ac.what < 0 ∨ 2 < ac.what
      · exact s_ClPlays_copy l v bc br Hz H hr0 hlb i ac h hxa now al a n k t hc
      · exact s_ClPlays_act l v bc br Hz H hr0 hlb i ac h hxa now al a n k t hc
    obtain ⟨H1, bc1, now1, al1, a1, n1, k1, t1, hstep⟩ := step
    obtain ⟨H', ih⟩ := l_ClPlays l v br Hz hr0 hlb x (i + 1) H1 bc1 now1 al1 a1 n1 k1 hx' t1
    exact ⟨H', fun K => (hstep K).trans (ih K)⟩

theorem q_ClockPlays (now : Int) (l : List Ac) (v : Value) (H : AHeap) (ok : Ok H) (hr : Rd EAc H v l) : ∃ H', CC F.law_ClockPlays [.int .i64 now, v] H = some (.bool true, H') := by
  have hlen := hr.lenS
  by_cases h1 : 60 < (l.length : Int)
  · refine any_of (H1 := ?_) (d_law_ClockPlays _ _ H ?_)
    rotate_left 1
    · simp (disch := first | with_reducible rfl | assumption | omega | rfl | (simp only [go_sem]; first | done | omega)) only [go_sem, ↓reduceIte, reduceCtorEq, Nat.reduceEqDiff, Nat.reduceAdd, Nat.reduceSub, Nat.reduceMul, Nat.reduceDiv, Nat.reduceMod, Nat.reduceLeDiff, Nat.reduceLT, Nat.reduceBEq, Int.reduceEq, Int.reduceBEq, Int.reduceBNe, Int.reduceLT, Int.reduceLE, Int.reduceAdd, Int.reduceSub, Int.reduceNeg, Int.reduceToNat, Int.reducePow, Nat.reducePow, Int.reduceMul, Int.reduceDiv, ↓s_law_ClockPlays, hlen, decide_eq_true h1]
      rfl
  cases ht : isTick now with
  | false =>
    have hnew := q_New_bad now H ht
    refine any_of (H1 := ?_) (d_law_ClockPlays _ _ H ?_)
    rotate_left 1
    · simp (disch := first | with_reducible rfl | assumption | omega | rfl | (simp only [go_sem]; first | done | omega)) only [go_sem, ↓reduceIte, reduceCtorEq, Nat.reduceEqDiff, Nat.reduceAdd, Nat.reduceSub, Nat.reduceMul, Nat.reduceDiv, Nat.reduceMod, Nat.reduceLeDiff, Nat.reduceLT, Nat.reduceBEq, Int.reduceEq, Int.reduceBEq, Int.reduceBNe, Int.reduceLT, Int.reduceLE, Int.reduceAdd, Int.reduceSub, Int.reduceNeg, Int.reduceToNat, Int.reducePow, Nat.reducePow, Int.reduceMul, Int.reduceDiv, ↓s_law_ClockPlays, hlen, decide_eq_false h1, enterK_eq hnew, e_ref_Tick, ht]
      rfl
  | true =>
    obtain ⟨H1, hnew, c1, s1⟩ := q_New now H ht
    generalize hH2 : (H1.push (.cells [.int .i64 0, .slice none 0 0] T.ref02_Clock true)).set H1.n (.cells [.int .i64 now, .slice none 0 0] T.ref02_Clock true) = H2
    have s2 : Still H1 H2 := by rw [← hH2]; exact Fr.set ((Fr.refl H1).push _) _ _ (fun h => by omega)
    have n2 : H2.n = H1.n + 1 := by rw [← hH2]; rfl
    have f2 : H2.f H1.n = .cells [.int .i64 now, .slice none 0 0] T.ref02_Clock true := by rw [← hH2]; exact set_f_eq
    have s02 : Still H H2 := s1.still.then s2 fun _ _ h => h
    have n1 : H.n ≤ H1.n := s1.n
    have t2 : Cp H H2 H.n H1.n now [] none 0 0 := ⟨ok.fr s02, s02, c1.still s2, f2, by omega, .inl ⟨rfl, rfl⟩, Nat.le_refl _, n1, ⟨List.Pairwise.nil, List.Pairwise.nil, (fun a ha => by cases ha), by simp, ht⟩⟩
    obtain ⟨H3, hloop⟩ := l_ClPlays l v H1.n H hr (by omega) l 0 H2 H.n now [] none 0 0 rfl t2
    refine any_of (H1 := H3) (d_law_ClockPlays _ _ H ?_)
    simp (disch := first | with_reducible rfl | assumption | omega | rfl | (simp only [go_sem]; first | done | omega)) only [go_sem, ↓reduceIte, reduceCtorEq, Nat.reduceEqDiff, Nat.reduceAdd, Nat.reduceSub, Nat.reduceMul, Nat.reduceDiv, Nat.reduceMod, Nat.reduceLeDiff, Nat.reduceLT, Nat.reduceBEq, Int.reduceEq, Int.reduceBEq, Int.reduceBNe, Int.reduceLT, Int.reduceLE, Int.reduceAdd, Int.reduceSub, Int.reduceNeg, Int.reduceToNat, Int.reducePow, Nat.reducePow, Int.reduceMul, Int.reduceDiv, ↓s_law_ClockPlays, hlen, decide_eq_false h1, enterK_eq hnew, e_ref_Tick, ht, ck_some, hH2]
    refine (hloop _).trans ?_
    simp (disch := first | with_reducible rfl | assumption | omega | rfl | (simp only [go_sem]; first | done | omega)) only [go_sem, ↓reduceIte, reduceCtorEq, Nat.reduceEqDiff, Nat.reduceAdd, Nat.reduceSub, Nat.reduceMul, Nat.reduceDiv, Nat.reduceMod, Nat.reduceLeDiff, Nat.reduceLT, Nat.reduceBEq, Int.reduceEq, Int.reduceBEq, Int.reduceBNe, Int.reduceLT, Int.reduceLE, Int.reduceAdd, Int.reduceSub, Int.reduceNeg, Int.reduceToNat, Int.reducePow, Nat.reducePow, Int.reduceMul, Int.reduceDiv]

theorem decAc {W : World} {H : Type} {enc : TypeId × Value → H} {cs : List Value} {n : Nat} {y : DataW H × List MemPlace} (h : DataW.trod enc Try.prog W 0 (fun _ => true) true n T.law_Act cs = some y) (hl : cs.length = EAc.w) :
    ∃ a : Ac, cs = EAc.enc a ∧ True ∧ cs.all plain = true := by
  have ht := Try.underlying45
  obtain ⟨c0, c1, c2, rfl⟩ : ∃ c0 c1 c2, cs = [c0, c1, c2] := by
    match cs, hl with
    | [c0, c1, c2], _ => exact ⟨_, _, _, rfl⟩
  obtain ⟨m0, z0, h0⟩ := dec_field ht h (i := 0) rfl rfl (by kernel_rfl) rfl
  obtain ⟨m1, z1, h1⟩ := dec_field ht h (i := 1) rfl rfl (by kernel_rfl) rfl
  obtain ⟨m2, z2, h2⟩ := dec_field ht h (i := 2) rfl rfl (by kernel_rfl) rfl
  obtain ⟨s0, rfl, _⟩ := dec_int Try.underlying3 h0
  obtain ⟨s1, rfl, _⟩ := dec_int Try.underlying3 h1
  obtain ⟨s2, rfl, _⟩ := dec_int Try.underlying3 h2
  exact ⟨⟨s0, s1, s2⟩, rfl, trivial, rfl⟩

theorem run_ClockPlays (W : World) (now : Int) (_ : (Lit.int .i64 now).wf = true) (v : Value) (l : List Ac) (hr : Rd EAc (absHeap W) v l) (_ : ∀ a, a ∈ l → True) (_ : l.length ≤ maxLen) :
    ∃ k H', dCall Try.prog prims1 hints k F.law_ClockPlays [.int .i64 now, v] (absHeap W) = some (.bool true, H') := by
  obtain ⟨H', h⟩ := q_ClockPlays now l v (absHeap W) (absHeap_okC W) hr
  obtain ⟨k, h⟩ := D_run h
  exact ⟨k, _, h⟩

end Go.Proofs.Ytldgonjihhndgaa

/-
  The law ClockPlays: for every input it returns true, and its input reads as it did.
  Conditions: none. By an AI agent.
-/
namespace Go.Proofs.Ytldgonjihhndgaa.clockPlays
open Go.ChangeShapes Go.WideShapes Go.ChangeAt Go.RowKit
open Go.ChangeMaps (open_string shut_string)
set_option linter.unusedVariables false
theorem own : ownKnob Try.prog.godebug = none := by kernel_rfl
theorem laidOut : laidOutB Try.prog = true := by kernel_rfl
set_option maxRecDepth 100000 in
theorem lifted (os : Os) (started : os.Started) (H : Type) (enc : TypeId × Value → H) :
    ReturnsInHanded {} Try.checked os 5 .any (Rows.clockPlaysSpec.pre6 enc Try.prog Try.f5 Rows.clockPlaysRow.domain false) (Rows.clockPlaysSpec.post enc Try.prog Try.f5 false true false false) := by
  refine returnsInHanded_of_change_sized (C := Try.checked) own started (by kernel_rfl) Try.func5
    (ChangeSpec.witness6 (enc := enc) (C := Try.checked) false ⟨#[], #[.int .i64 0, .slice none 0 0], []⟩ 8 (by kernel_rfl) (by kernel_rfl) (by kernel_rfl) (by kernel_rfl)) ?_
  intro W base args ds gs before hval0 hW hcnd hsz0 _
  have hsz : (DataW.weightsEach Try.prog (Try.f5.params.toList ++ Rows.clockPlaysSpec.plain.varTypes Try.prog) (ds ++ gs)).all (· ≤ reachBytes) = true := hsz0
  have hval : ∀ (j : Nat) t v, Try.f5.params[j]? = some t → args[j]? = some v → Value.okWide Try.prog W .any base t v := hval0
  have hW' := hW
  obtain ⟨p, q, hA0, hV, rfl, hfz, hnd⟩ := hW
  have hA : DataW.TrodAll enc Try.prog W 0 (fun _ => true) true Try.f5.params.toList args.toList ds p := hA0
  rw [Try.params5] at hA hval hsz
  obtain ⟨v0, vs0, d0, ds0, p0, q0, hargs, rfl, rfl, h0, r0⟩ := trodAll_cons hA
  obtain ⟨v1, vs1, d1, ds1, p1, q1, rfl, rfl, rfl, h1, r1⟩ := trodAll_cons r0
  obtain ⟨rfl, rfl, rfl⟩ := trodAll_nil r1
  obtain rfl : args = #[v0, v1] := by cases args; simp_all
  obtain ⟨rfl, rfl⟩ := trodVars_none hV
  obtain ⟨a0, rfl, rfl, rfl, w0⟩ := open_int Try.underlying3 (hval 0 3 v0 rfl rfl) h0
  have k1 := h1
  have lt1 : ∀ x ∈ p1, x.block < W.heap.size := by obtain ⟨m, hm⟩ := k1; exact DataW.trod_lt m _ _ _ hm
  obtain ⟨l1, rd1, all1, len1⟩ := Eng.open_rd (t := 41) Try.underlying41 (by kernel_rfl) (fun cs n y h hl => decAc h hl) (hval 1 41 v1 rfl rfl) k1
  refine (Eng.law_calls (args := #[.int .i64 a0, v1]) prims1_ok mixed (run_ClockPlays W a0 w0 (Eng.convA W.heap.size v1) l1 rd1 all1 len1)).mono fun e W' ⟨he, bel⟩ => ?_
  subst he
  exact ⟨_, rfl, _, _, _, [], _, [], hW', trodAll_mk1 (shut_bool Try.underlying4 _), (trodAll_cons_mk (shut_int Try.underlying3 w0) (trodAll_cons_mk (Below.trod laidOut (by kernel_rfl) (of_decide_eq_true (by kernel_rfl)) k1 bel lt1) trodAll_mk0)), rfl, bel.frame _, fun h => by cases h⟩

theorem over : Rows.clockPlaysRow.holds Try.pinned (OpenSpec.ofChange Rows.clockPlaysSpec) :=
  OpenClaim.holds_of_wide 5 Try.f5 rfl rfl rfl rfl rfl rfl rfl ⟨rfl, rfl, rfl, rfl, rfl⟩ rfl rfl rfl rfl rfl (by kernel_rfl) Try.func5 (by kernel_rfl)
    (of_decide_eq_true (by kernel_rfl)) (by unfold Func.isWrapper; first | (rw [if_pos (by decide +kernel)]; kernel_rfl) | (rw [if_neg (by decide +kernel)]; exact ⟨rfl, rfl⟩))
    (fun os started H enc _ => lifted os started H enc)
theorem proved : Rows.ClockPlaysSaid := over
#print axioms proved
end Go.Proofs.Ytldgonjihhndgaa.clockPlays
namespace Go.Proofs.Ytldgonjihhndgaa
/-- The row, under a short name, for the claim. -/
theorem clockPlays_holds : Rows.ClockPlaysSaid := clockPlays.proved
end Go.Proofs.Ytldgonjihhndgaa
