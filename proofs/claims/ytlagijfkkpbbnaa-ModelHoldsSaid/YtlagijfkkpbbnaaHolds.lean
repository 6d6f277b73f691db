/-
  Chapter 24: the law ModelHolds, the calls (printed by gen_holds.py).
  Conditions: none. By an AI agent.
-/
import Derived.Test.YtlagijfkkpbbnaaAl
import Derived.Test.YtlagijfkkpbbnaaV
import Derived.Test.YtlagijfkkpbbnaaDsModelHolds
set_option maxRecDepth 10000
set_option linter.unusedSimpArgs false
set_option linter.unusedVariables false
namespace Go.Proofs.Ytlagijfkkpbbnaa
open Go Eng

theorem eff_bad {l : List Pr} {e : Int} {key : ByteArray} {v : Option ByteArray} (h : e ≠ 0) : Eff l l e key v := ⟨fun h' => absurd h' h, fun _ _ => rfl, fun _ => rfl⟩
theorem eff_putE {l : List Pr} (hs : Srt l) (a : Pr) : Eff l (putE l a).2 (putE l a).1 a.key (some a.value) := by
  unfold putE
  split
  · exact eff_put hs a
  · rename_i h; exact eff_bad h
theorem eff_insertE {l : List Pr} (hs : Srt l) (a : Pr) : Eff l (insertE l a).2 (insertE l a).1 a.key (some a.value) := by
  unfold insertE
  split
  · exact eff_insert hs a
  · rename_i h; exact eff_bad h
theorem eff_swapE {l : List Pr} (hs : Srt l) (k o n : ByteArray) : Eff l (swapE l k o n).2 (swapE l k o n).1 k (some n) := by
  unfold swapE
  split
  · exact eff_swap hs k o n
  · rename_i h; exact eff_bad h
theorem eff_delE {l : List Pr} (hs : Srt l) (k : ByteArray) : ∃ s e, getE l k = .tuple #[.string s, .int .i64 e] ∧ Eff l (delE l k) e k none := by
  unfold getE delE
  by_cases h : chk k [] = 0
  · rw [if_pos h, if_pos h]
    have := eff_delete hs k
    unfold getP
    by_cases h2 : isP l k (posP l k) = true
    · rw [if_pos h2, if_pos h2] at this
      rw [if_pos h2, if_pos h2]
      exact ⟨_, _, rfl, this⟩
    · rw [if_neg h2, if_neg h2] at this
      rw [if_neg h2, if_neg h2]
      exact ⟨_, _, rfl, this⟩
  · rw [if_neg h, if_neg h]
    exact ⟨_, _, rfl, eff_bad h⟩
theorem allOk_putE {l : List Pr} (h : AllOk l) (a : Pr) : AllOk (putE l a).2 := by
  unfold putE
  split
  · rename_i hc; exact allOk_put h hc _
  · exact h
theorem allOk_insertE {l : List Pr} (h : AllOk l) (a : Pr) : AllOk (insertE l a).2 := by
  unfold insertE
  split
  · rename_i hc; exact allOk_insert h hc _
  · exact h
theorem allOk_swapE {l : List Pr} (h : AllOk l) (k o n : ByteArray) : AllOk (swapE l k o n).2 := by
  unfold swapE
  split
  · rename_i hc; exact allOk_swap h (chk_two hc).2 _
  · exact h
theorem allOk_delE {l : List Pr} (h : AllOk l) (k : ByteArray) : AllOk (delE l k) := by
  unfold delE
  split
  · split
    · refine allOk_sub h fun a ha => ?_
      rcases List.mem_append.1 ha with ha | ha
      · exact List.mem_of_mem_take ha
      · exact List.mem_of_mem_drop ha
    · exact h
  · exact h

theorem q_getsV (b : Nat) (l : List Pr) (key : ByteArray) (H : AHeap) (r : Mdl H b l) (hs : Srt l) (hl : l.length ≤ 20000) (hkc : chk key [] = 0) (there : Bool) (value : ByteArray) (hv : val l key = if there = true then some value else none) :
    CC F.law_gets [.pointer (some ⟨b, 0, none⟩), .string key, .string (if there = true then value else mk []), .int .i64 (if there = true then 0 else 9)] H = some (.bool true, H) := by
  refine q_gets b l key _ _ H r hs hl ?_
  unfold getE
  rw [if_pos hkc, getP_val hs, hv]
  cases there <;> rfl

/-- How the calls end. -/
def HOut (Hz : AHeap) (bm : Nat) (tv : Value) (ex : DExit) (T' : Env) (H' : AHeap) : Prop :=
  (ex = .ret ∧ T' = [(6, .bool true)]) ∨ (ex = .normal ∧ T' = [(2, tv), (7, .pointer (some ⟨bm, 0, none⟩))] ∧ ∃ c, Still Hz H' ∧ Ok H' ∧ Mdl H' bm c ∧ (∀ d, MB H' bm d → Hz.n ≤ d) ∧ Srt c ∧ c.length ≤ 20000 ∧ AllOk c)

set_option maxHeartbeats 4000000 in
theorem l_Holds0 (l : List Act) (v : Value) (key : ByteArray) (tv : Value) (bm : Nat) (Hz : AHeap) (hr0 : Rd EAct Hz v l) (hkc : chk key [] = 0) : ∀ (x : List Act) (i : Nat) (H : AHeap) (c : List Pr) (there : Bool) (value : ByteArray), l.drop i = x → i ≤ l.length → Still Hz H → Ok H → Mdl H bm c → (∀ d, MB H bm d → Hz.n ≤ d) → Srt c → c.length ≤ 20000 → AllOk c → (val c key = if there = true then some value else none) →
    l.length ≤ 1000 → ∃ ex T' H', HOut Hz bm tv ex T' H' ∧ ∀ K : K,
    l_law_ModelHolds_0 v (.string key) tv (.pointer (some ⟨bm, 0, none⟩)) (.bool there) (.string value) (.int .i64 i) H (blkK [2, 7] 0 K) = K ex T' H'
  | [], i, H, c, there, value, hx, hi, hb, ok, m, lom, hs, hlen20, hall, hval, hl1 => by
    have h : l.length ≤ i := List.drop_eq_nil_iff.1 hx
    have hlt : ¬ (i : Int) < (l.length : Int) := by omega
    have hlen := hr0.lenS
    refine ⟨.normal, _, H, .inr ⟨rfl, rfl, c, hb, ok, m, lom, hs, hlen20, hall⟩, fun K => ?_⟩
    rw [r_law_ModelHolds_0]
    simp (disch := first | with_reducible rfl | assumption | omega | rfl | (simp only [go_sem]; first | done | omega)) only [go_sem, ↓reduceIte, reduceCtorEq, Nat.reduceEqDiff, Nat.reduceAdd, Nat.reduceSub, Nat.reduceMul, Nat.reduceDiv, Nat.reduceMod, Nat.reduceLeDiff, Nat.reduceLT, Nat.reduceBEq, Int.reduceEq, Int.reduceBEq, Int.reduceBNe, Int.reduceLT, Int.reduceLE, Int.reduceAdd, Int.reduceSub, Int.reduceNeg, Int.reduceToNat, Int.reducePow, Nat.reducePow, Int.reduceMul, Int.reduceDiv, ↓s_law_ModelHolds_b0, hlen, hlt]
  | a :: x, i, H, c, there, value, hx, hi, hb, ok, m, lom, hs, hlen20, hall, hval, hl1 => by
    obtain ⟨h, hxa, hx'⟩ := drop_cons hx
    have hlt : (i : Int) < (l.length : Int) := by omega
    have hlen := hr0.lenS
    obtain ⟨b1, o1, hix, hb1, hc1, _⟩ := hr0.ix (q := .i64) h
    rw [hxa] at hc1
    have hix : ixS 5 v (.int .i64 i) = some (.pointer (some ⟨b1, o1, none⟩)) := hix
    have hca : cutB (H.f b1) o1 5 = some [.int .i64 a.what, .string a.key, .string a.value, .string a.old, .int .i64 a.limit] := by rw [hb.f hb1 (fun h => h)]; exact hc1
    generalize hH1 : (H.push (.cells [.int .i64 0, .string (mk []), .string (mk []), .string (mk []), .int .i64 0] T.law_Act true)).set H.n (.cells [.int .i64 a.what, .string a.key, .string a.value, .string a.old, .int .i64 a.limit] T.law_Act true) = H1
    have s1 : Still H H1 := by rw [← hH1]; exact Fr.set ((Fr.refl H).push _) _ _ (fun h => by omega)
    have n1 : H1.n = H.n + 1 := by rw [← hH1]; rfl
    have f1 : H1.f H.n = .cells [.int .i64 a.what, .string a.key, .string a.value, .string a.old, .int .i64 a.limit] T.law_Act true := by rw [← hH1]; exact set_f_eq
    have ok1 := ok.fr s1
    have b1' : Still Hz H1 := hb.still.then s1 fun _ _ h => h
    have m1 : Mdl H1 bm c := m.still s1
    have lom1 : ∀ d, MB H1 bm d → Hz.n ≤ d := fun d h => lom d (MBT_still m s1 h)
    have hno : ¬ MB H1 bm H.n := fun h => by have := m.blk (MBT_still m s1 h); omega
    have hsh := q_short a H1
    cases hsa : shortA a with
    | false =>
      rw [hsa] at hsh
      refine ⟨.ret, _, H1, .inl ⟨rfl, rfl⟩, fun K => ?_⟩
      rw [r_law_ModelHolds_0]
      simp (disch := first | with_reducible rfl | assumption | omega | rfl | (simp only [go_sem]; first | done | omega)) only [go_sem, ↓reduceIte, reduceCtorEq, Nat.reduceEqDiff, Nat.reduceAdd, Nat.reduceSub, Nat.reduceMul, Nat.reduceDiv, Nat.reduceMod, Nat.reduceLeDiff, Nat.reduceLT, Nat.reduceBEq, Int.reduceEq, Int.reduceBEq, Int.reduceBNe, Int.reduceLT, Int.reduceLE, Int.reduceAdd, Int.reduceSub, Int.reduceNeg, Int.reduceToNat, Int.reducePow, Nat.reducePow, Int.reduceMul, Int.reduceDiv, ↓s_law_ModelHolds_b0, hlen, hlt, hix, hca, hH1, f1, enterK_eq hsh]
    | true =>
      rw [hsa] at hsh
      by_cases w1 : a.what = 1
      ·
        obtain ⟨H2, hcall, m2, u2⟩ := q_putM bm c ⟨a.key, a.value⟩ H1 ok1 m1 hs hlen20
        have heff := eff_putE hs ⟨a.key, a.value⟩
        have hs' : Srt (putE c ⟨a.key, a.value⟩).2 := srt_putE hs _
        have hl' : (putE c ⟨a.key, a.value⟩).2.length ≤ 20000 := len_putE hlen20 _
        have hall' : AllOk (putE c ⟨a.key, a.value⟩).2 := allOk_putE hall _
        try simp only at hcall heff
        generalize hw : putE c ⟨a.key, a.value⟩ = w at *
        obtain ⟨e, c'⟩ := w
        simp only at hcall heff m2 hs' hl' hall'
        have f2 : H2.f H.n = .cells [.int .i64 a.what, .string a.key, .string a.value, .string a.old, .int .i64 a.limit] T.law_Act true := by rw [u2.fr.f (by omega) hno, f1]
        have ok2 := ok1.fr u2.fr
        have b2 : Still Hz H2 := b1'.still.then u2.fr fun d hd h => by have := lom1 d h; omega
        have lom2 : ∀ d, MB H2 bm d → Hz.n ≤ d := fun d h => by rcases u2.mb d h with h | h; · exact lom1 d h
                                                                · have := b1'.n; omega
        by_cases hk : bl a.key = bl key
        · have hkk : a.key = key := bl_inj hk
          by_cases he : e = 0
          · have hv' : val c' key = if true = true then some a.value else none := by have := heff.self he; rw [hkk] at this; rw [this]; rfl
            obtain ⟨ex, T', H', hp, ih⟩ := l_Holds0 l v key tv bm Hz hr0 hkc x (i + 1) H2 c' true a.value hx' h b2 ok2 m2 lom2 hs' hl' hall' hv' hl1
            have hg := q_getsV bm c' key H2 m2 hs' hl' hkc true a.value hv'
            refine ⟨ex, T', H', hp, fun K => ?_⟩
            have ih := ih K
            rw [Int.natCast_add] at ih
            rw [r_law_ModelHolds_0]
            simp only [if_true, Bool.false_eq_true, if_false] at hg
            simp (disch := first | with_reducible rfl | assumption | omega | rfl | (simp only [go_sem]; first | done | omega)) only [go_sem, ↓reduceIte, reduceCtorEq, Nat.reduceEqDiff, Nat.reduceAdd, Nat.reduceSub, Nat.reduceMul, Nat.reduceDiv, Nat.reduceMod, Nat.reduceLeDiff, Nat.reduceLT, Nat.reduceBEq, Int.reduceEq, Int.reduceBEq, Int.reduceBNe, Int.reduceLT, Int.reduceLE, Int.reduceAdd, Int.reduceSub, Int.reduceNeg, Int.reduceToNat, Int.reducePow, Nat.reducePow, Int.reduceMul, Int.reduceDiv, ↓s_law_ModelHolds_b0, hlen, hlt, hix, hca, hH1, f1, enterK_eq hsh, decide_eq_true w1, enterK_eq hcall, f2, decide_eq_true hk, decide_eq_true he, decide_eq_false (show ¬ a.what = 3 by omega), Bool.not_true, Bool.not_false, enterK_eq hg]
            exact ih
          · have hv' : val c' key = if there = true then some value else none := by rw [heff.err he]; exact hval
            obtain ⟨ex, T', H', hp, ih⟩ := l_Holds0 l v key tv bm Hz hr0 hkc x (i + 1) H2 c' there value hx' h b2 ok2 m2 lom2 hs' hl' hall' hv' hl1
            have hg := q_getsV bm c' key H2 m2 hs' hl' hkc there value hv'
            refine ⟨ex, T', H', hp, fun K => ?_⟩
            have ih := ih K
            rw [Int.natCast_add] at ih
            rw [r_law_ModelHolds_0]
            cases there with
            | true =>
              simp only [if_true, Bool.false_eq_true, if_false] at hg
              simp (disch := first | with_reducible rfl | assumption | omega | rfl | (simp only [go_sem]; first | done | omega)) only [go_sem, ↓reduceIte, reduceCtorEq, Nat.reduceEqDiff, Nat.reduceAdd, Nat.reduceSub, Nat.reduceMul, Nat.reduceDiv, Nat.reduceMod, Nat.reduceLeDiff, Nat.reduceLT, Nat.reduceBEq, Int.reduceEq, Int.reduceBEq, Int.reduceBNe, Int.reduceLT, Int.reduceLE, Int.reduceAdd, Int.reduceSub, Int.reduceNeg, Int.reduceToNat, Int.reducePow, Nat.reducePow, Int.reduceMul, Int.reduceDiv, ↓s_law_ModelHolds_b0, hlen, hlt, hix, hca, hH1, f1, enterK_eq hsh, decide_eq_true w1, enterK_eq hcall, f2, decide_eq_true hk, decide_eq_false he, Bool.not_true, Bool.not_false, enterK_eq hg]
              exact ih
            | false =>
              simp only [if_true, Bool.false_eq_true, if_false] at hg
              simp (disch := first | with_reducible rfl | assumption | omega | rfl | (simp only [go_sem]; first | done | omega)) only [go_sem, ↓reduceIte, reduceCtorEq, Nat.reduceEqDiff, Nat.reduceAdd, Nat.reduceSub, Nat.reduceMul, Nat.reduceDiv, Nat.reduceMod, Nat.reduceLeDiff, Nat.reduceLT, Nat.reduceBEq, Int.reduceEq, Int.reduceBEq, Int.reduceBNe, Int.reduceLT, Int.reduceLE, Int.reduceAdd, Int.reduceSub, Int.reduceNeg, Int.reduceToNat, Int.reducePow, Nat.reducePow, Int.reduceMul, Int.reduceDiv, ↓s_law_ModelHolds_b0, hlen, hlt, hix, hca, hH1, f1, enterK_eq hsh, decide_eq_true w1, enterK_eq hcall, f2, decide_eq_true hk, decide_eq_false he, Bool.not_true, Bool.not_false, enterK_eq hg]
              exact ih
        · have hv' : val c' key = if there = true then some value else none := by rw [heff.other key (fun h => hk (by rw [h]))]; exact hval
          obtain ⟨ex, T', H', hp, ih⟩ := l_Holds0 l v key tv bm Hz hr0 hkc x (i + 1) H2 c' there value hx' h b2 ok2 m2 lom2 hs' hl' hall' hv' hl1
          have hg := q_getsV bm c' key H2 m2 hs' hl' hkc there value hv'
          refine ⟨ex, T', H', hp, fun K => ?_⟩
          have ih := ih K
          rw [Int.natCast_add] at ih
          rw [r_law_ModelHolds_0]
          cases there with
          | true =>
            simp only [if_true, Bool.false_eq_true, if_false] at hg
            simp (disch := first | with_reducible rfl | assumption | omega | rfl | (simp only [go_sem]; first | done | omega)) only [go_sem, ↓reduceIte, reduceCtorEq, Nat.reduceEqDiff, Nat.reduceAdd, Nat.reduceSub, Nat.reduceMul, Nat.reduceDiv, Nat.reduceMod, Nat.reduceLeDiff, Nat.reduceLT, Nat.reduceBEq, Int.reduceEq, Int.reduceBEq, Int.reduceBNe, Int.reduceLT, Int.reduceLE, Int.reduceAdd, Int.reduceSub, Int.reduceNeg, Int.reduceToNat, Int.reducePow, Nat.reducePow, Int.reduceMul, Int.reduceDiv, ↓s_law_ModelHolds_b0, hlen, hlt, hix, hca, hH1, f1, enterK_eq hsh, decide_eq_true w1, enterK_eq hcall, f2, decide_eq_false hk, Bool.not_true, Bool.not_false, enterK_eq hg]
            exact ih
          | false =>
            simp only [if_true, Bool.false_eq_true, if_false] at hg
            simp (disch := first | with_reducible rfl | assumption | omega | rfl | (simp only [go_sem]; first | done | omega)) only [go_sem, ↓reduceIte, reduceCtorEq, Nat.reduceEqDiff, Nat.reduceAdd, Nat.reduceSub, Nat.reduceMul, Nat.reduceDiv, Nat.reduceMod, Nat.reduceLeDiff, Nat.reduceLT, Nat.reduceBEq, Int.reduceEq, Int.reduceBEq, Int.reduceBNe, Int.reduceLT, Int.reduceLE, Int.reduceAdd, Int.reduceSub, Int.reduceNeg, Int.reduceToNat, Int.reducePow, Nat.reducePow, Int.reduceMul, Int.reduceDiv, ↓s_law_ModelHolds_b0, hlen, hlt, hix, hca, hH1, f1, enterK_eq hsh, decide_eq_true w1, enterK_eq hcall, f2, decide_eq_false hk, Bool.not_true, Bool.not_false, enterK_eq hg]
            exact ih
      · by_cases w2 : a.what = 2
        ·
          obtain ⟨H2, hcall, m2, u2⟩ := q_insM bm c ⟨a.key, a.value⟩ H1 ok1 m1 hs hlen20
          have heff := eff_insertE hs ⟨a.key, a.value⟩
          have hs' : Srt (insertE c ⟨a.key, a.value⟩).2 := srt_insertE hs _
          have hl' : (insertE c ⟨a.key, a.value⟩).2.length ≤ 20000 := len_insertE hlen20 _
          have hall' : AllOk (insertE c ⟨a.key, a.value⟩).2 := allOk_insertE hall _
          try simp only at hcall heff
          generalize hw : insertE c ⟨a.key, a.value⟩ = w at *
          obtain ⟨e, c'⟩ := w
          simp only at hcall heff m2 hs' hl' hall'
          have f2 : H2.f H.n = .cells [.int .i64 a.what, .string a.key, .string a.value, .string a.old, .int .i64 a.limit] T.law_Act true := by rw [u2.fr.f (by omega) hno, f1]
          have ok2 := ok1.fr u2.fr
          have b2 : Still Hz H2 := b1'.still.then u2.fr fun d hd h => by have := lom1 d h; omega
          have lom2 : ∀ d, MB H2 bm d → Hz.n ≤ d := fun d h => by rcases u2.mb d h with h | h; · exact lom1 d h
                                                                  · have := b1'.n; omega
          by_cases hk : bl a.key = bl key
          · have hkk : a.key = key := bl_inj hk
            by_cases he : e = 0
            · have hv' : val c' key = if true = true then some a.value else none := by have := heff.self he; rw [hkk] at this; rw [this]; rfl
              obtain ⟨ex, T', H', hp, ih⟩ := l_Holds0 l v key tv bm Hz hr0 hkc x (i + 1) H2 c' true a.value hx' h b2 ok2 m2 lom2 hs' hl' hall' hv' hl1
              have hg := q_getsV bm c' key H2 m2 hs' hl' hkc true a.value hv'
              refine ⟨ex, T', H', hp, fun K => ?_⟩
              have ih := ih K
              rw [Int.natCast_add] at ih
              rw [r_law_ModelHolds_0]
              simp only [if_true, Bool.false_eq_true, if_false] at hg
              simp (disch := first | with_reducible rfl | assumption | omega | rfl | (simp only [go_sem]; first | done | omega)) only [go_sem, ↓reduceIte, reduceCtorEq, Nat.reduceEqDiff, Nat.reduceAdd, Nat.reduceSub, Nat.reduceMul, Nat.reduceDiv, Nat.reduceMod, Nat.reduceLeDiff, Nat.reduceLT, Nat.reduceBEq, Int.reduceEq, Int.reduceBEq, Int.reduceBNe, Int.reduceLT, Int.reduceLE, Int.reduceAdd, Int.reduceSub, Int.reduceNeg, Int.reduceToNat, Int.reducePow, Nat.reducePow, Int.reduceMul, Int.reduceDiv, ↓s_law_ModelHolds_b0, hlen, hlt, hix, hca, hH1, f1, enterK_eq hsh, decide_eq_false w1, decide_eq_true w2, enterK_eq hcall, f2, decide_eq_true hk, decide_eq_true he, decide_eq_false (show ¬ a.what = 3 by omega), Bool.not_true, Bool.not_false, enterK_eq hg]
              exact ih
            · have hv' : val c' key = if there = true then some value else none := by rw [heff.err he]; exact hval
              obtain ⟨ex, T', H', hp, ih⟩ := l_Holds0 l v key tv bm Hz hr0 hkc x (i + 1) H2 c' there value hx' h b2 ok2 m2 lom2 hs' hl' hall' hv' hl1
              have hg := q_getsV bm c' key H2 m2 hs' hl' hkc there value hv'
              refine ⟨ex, T', H', hp, fun K => ?_⟩
              have ih := ih K
              rw [Int.natCast_add] at ih
              rw [r_law_ModelHolds_0]
              cases there with
              | true =>
                simp only [if_true, Bool.false_eq_true, if_false] at hg
                simp (disch := first | with_reducible rfl | assumption | omega | rfl | (simp only [go_sem]; first | done | omega)) only [go_sem, ↓reduceIte, reduceCtorEq, Nat.reduceEqDiff, Nat.reduceAdd, Nat.reduceSub, Nat.reduceMul, Nat.reduceDiv, Nat.reduceMod, Nat.reduceLeDiff, Nat.reduceLT, Nat.reduceBEq, Int.reduceEq, Int.reduceBEq, Int.reduceBNe, Int.reduceLT, Int.reduceLE, Int.reduceAdd, Int.reduceSub, Int.reduceNeg, Int.reduceToNat, Int.reducePow, Nat.reducePow, Int.reduceMul, Int.reduceDiv, ↓s_law_ModelHolds_b0, hlen, hlt, hix, hca, hH1, f1, enterK_eq hsh, decide_eq_false w1, decide_eq_true w2, enterK_eq hcall, f2, decide_eq_true hk, decide_eq_false he, Bool.not_true, Bool.not_false, enterK_eq hg]
                exact ih
              | false =>
                simp only [if_true, Bool.false_eq_true, if_false] at hg
                simp (disch := first | with_reducible rfl | assumption | omega | rfl | (simp only [go_sem]; first | done | omega)) only [go_sem, ↓reduceIte, reduceCtorEq, Nat.reduceEqDiff, Nat.reduceAdd, Nat.reduceSub, Nat.reduceMul, Nat.reduceDiv, Nat.reduceMod, Nat.reduceLeDiff, Nat.reduceLT, Nat.reduceBEq, Int.reduceEq, Int.reduceBEq, Int.reduceBNe, Int.reduceLT, Int.reduceLE, Int.reduceAdd, Int.reduceSub, Int.reduceNeg, Int.reduceToNat, Int.reducePow, Nat.reducePow, Int.reduceMul, Int.reduceDiv, ↓s_law_ModelHolds_b0, hlen, hlt, hix, hca, hH1, f1, enterK_eq hsh, decide_eq_false w1, decide_eq_true w2, enterK_eq hcall, f2, decide_eq_true hk, decide_eq_false he, Bool.not_true, Bool.not_false, enterK_eq hg]
                exact ih
          · have hv' : val c' key = if there = true then some value else none := by rw [heff.other key (fun h => hk (by rw [h]))]; exact hval
            obtain ⟨ex, T', H', hp, ih⟩ := l_Holds0 l v key tv bm Hz hr0 hkc x (i + 1) H2 c' there value hx' h b2 ok2 m2 lom2 hs' hl' hall' hv' hl1
            have hg := q_getsV bm c' key H2 m2 hs' hl' hkc there value hv'
            refine ⟨ex, T', H', hp, fun K => ?_⟩
            have ih := ih K
            rw [Int.natCast_add] at ih
            rw [r_law_ModelHolds_0]
            cases there with
            | true =>
              simp only [if_true, Bool.false_eq_true, if_false] at hg
              simp (disch := first | with_reducible rfl | assumption | omega | rfl | (simp only [go_sem]; first | done | omega)) only [go_sem, ↓reduceIte, reduceCtorEq, Nat.reduceEqDiff, Nat.reduceAdd, Nat.reduceSub, Nat.reduceMul, Nat.reduceDiv, Nat.reduceMod, Nat.reduceLeDiff, Nat.reduceLT, Nat.reduceBEq, Int.reduceEq, Int.reduceBEq, Int.reduceBNe, Int.reduceLT, Int.reduceLE, Int.reduceAdd, Int.reduceSub, Int.reduceNeg, Int.reduceToNat, Int.reducePow, Nat.reducePow, Int.reduceMul, Int.reduceDiv, ↓s_law_ModelHolds_b0, hlen, hlt, hix, hca, hH1, f1, enterK_eq hsh, decide_eq_false w1, decide_eq_true w2, enterK_eq hcall, f2, decide_eq_false hk, Bool.not_true, Bool.not_false, enterK_eq hg]
              exact ih
            | false =>
              simp only [if_true, Bool.false_eq_true, if_false] at hg
              simp (disch := first | with_reducible rfl | assumption | omega | rfl | (simp only [go_sem]; first | done | omega)) only [go_sem, ↓reduceIte, reduceCtorEq, Nat.reduceEqDiff, Nat.reduceAdd, Nat.reduceSub, Nat.reduceMul, Nat.reduceDiv, Nat.reduceMod, Nat.reduceLeDiff, Nat.reduceLT, Nat.reduceBEq, Int.reduceEq, Int.reduceBEq, Int.reduceBNe, Int.reduceLT, Int.reduceLE, Int.reduceAdd, Int.reduceSub, Int.reduceNeg, Int.reduceToNat, Int.reducePow, Nat.reducePow, Int.reduceMul, Int.reduceDiv, ↓s_law_ModelHolds_b0, hlen, hlt, hix, hca, hH1, f1, enterK_eq hsh, decide_eq_false w1, decide_eq_true w2, enterK_eq hcall, f2, decide_eq_false hk, Bool.not_true, Bool.not_false, enterK_eq hg]
              exact ih
        · by_cases w3 : a.what = 3
          ·
            obtain ⟨s, e, hse, heff⟩ := eff_delE hs a.key
            obtain ⟨H2, hcall, m2, u2⟩ := q_delM bm c a.key H1 ok1 m1 hs hlen20
            rw [hse] at hcall
            have hs' := srt_delE hs a.key
            have hl' := len_delE hlen20 a.key
            have hall' := allOk_delE hall a.key
            generalize delE c a.key = c' at *
            have f2 : H2.f H.n = .cells [.int .i64 a.what, .string a.key, .string a.value, .string a.old, .int .i64 a.limit] T.law_Act true := by rw [u2.fr.f (by omega) hno, f1]
            have ok2 := ok1.fr u2.fr
            have b2 : Still Hz H2 := b1'.still.then u2.fr fun d hd h => by have := lom1 d h; omega
            have lom2 : ∀ d, MB H2 bm d → Hz.n ≤ d := fun d h => by rcases u2.mb d h with h | h; · exact lom1 d h
                                                                    · have := b1'.n; omega
            by_cases hk : bl a.key = bl key
            · have hkk : a.key = key := bl_inj hk
              by_cases he : e = 0
              · have hv' : val c' key = if false = true then some a.value else none := by have := heff.self he; rw [hkk] at this; rw [this]; rfl
                obtain ⟨ex, T', H', hp, ih⟩ := l_Holds0 l v key tv bm Hz hr0 hkc x (i + 1) H2 c' false a.value hx' h b2 ok2 m2 lom2 hs' hl' hall' hv' hl1
                have hg := q_getsV bm c' key H2 m2 hs' hl' hkc false a.value hv'
                refine ⟨ex, T', H', hp, fun K => ?_⟩
                have ih := ih K
                rw [Int.natCast_add] at ih
                rw [r_law_ModelHolds_0]
                simp only [if_true, Bool.false_eq_true, if_false] at hg
                simp (disch := first | with_reducible rfl | assumption | omega | rfl | (simp only [go_sem]; first | done | omega)) only [go_sem, ↓reduceIte, reduceCtorEq, Nat.reduceEqDiff, Nat.reduceAdd, Nat.reduceSub, Nat.reduceMul, Nat.reduceDiv, Nat.reduceMod, Nat.reduceLeDiff, Nat.reduceLT, Nat.reduceBEq, Int.reduceEq, Int.reduceBEq, Int.reduceBNe, Int.reduceLT, Int.reduceLE, Int.reduceAdd, Int.reduceSub, Int.reduceNeg, Int.reduceToNat, Int.reducePow, Nat.reducePow, Int.reduceMul, Int.reduceDiv, ↓s_law_ModelHolds_b0, hlen, hlt, hix, hca, hH1, f1, enterK_eq hsh, decide_eq_false w1, decide_eq_false w2, decide_eq_true w3, enterK_eq hcall, f2, decide_eq_true hk, decide_eq_true he, decide_eq_true w3, Bool.not_true, Bool.not_false, enterK_eq hg]
                exact ih
              · have hv' : val c' key = if there = true then some value else none := by rw [heff.err he]; exact hval
                obtain ⟨ex, T', H', hp, ih⟩ := l_Holds0 l v key tv bm Hz hr0 hkc x (i + 1) H2 c' there value hx' h b2 ok2 m2 lom2 hs' hl' hall' hv' hl1
                have hg := q_getsV bm c' key H2 m2 hs' hl' hkc there value hv'
                refine ⟨ex, T', H', hp, fun K => ?_⟩
                have ih := ih K
                rw [Int.natCast_add] at ih
                rw [r_law_ModelHolds_0]
                cases there with
                | true =>
                  simp only [if_true, Bool.false_eq_true, if_false] at hg
                  simp (disch := first | with_reducible rfl | assumption | omega | rfl | (simp only [go_sem]; first | done | omega)) only [go_sem, ↓reduceIte, reduceCtorEq, Nat.reduceEqDiff, Nat.reduceAdd, Nat.reduceSub, Nat.reduceMul, Nat.reduceDiv, Nat.reduceMod, Nat.reduceLeDiff, Nat.reduceLT, Nat.reduceBEq, Int.reduceEq, Int.reduceBEq, Int.reduceBNe, Int.reduceLT, Int.reduceLE, Int.reduceAdd, Int.reduceSub, Int.reduceNeg, Int.reduceToNat, Int.reducePow, Nat.reducePow, Int.reduceMul, Int.reduceDiv, ↓s_law_ModelHolds_b0, hlen, hlt, hix, hca, hH1, f1, enterK_eq hsh, decide_eq_false w1, decide_eq_false w2, decide_eq_true w3, enterK_eq hcall, f2, decide_eq_true hk, decide_eq_false he, Bool.not_true, Bool.not_false, enterK_eq hg]
                  exact ih
                | false =>
                  simp only [if_true, Bool.false_eq_true, if_false] at hg
                  simp (disch := first | with_reducible rfl | assumption | omega | rfl | (simp only [go_sem]; first | done | omega)) only [go_sem, ↓reduceIte, reduceCtorEq, Nat.reduceEqDiff, Nat.reduceAdd, Nat.reduceSub, Nat.reduceMul, Nat.reduceDiv, Nat.reduceMod, Nat.reduceLeDiff, Nat.reduceLT, Nat.reduceBEq, Int.reduceEq, Int.reduceBEq, Int.reduceBNe, Int.reduceLT, Int.reduceLE, Int.reduceAdd, Int.reduceSub, Int.reduceNeg, Int.reduceToNat, Int.reducePow, Nat.reducePow, Int.reduceMul, Int.reduceDiv, ↓s_law_ModelHolds_b0, hlen, hlt, hix, hca, hH1, f1, enterK_eq hsh, decide_eq_false w1, decide_eq_false w2, decide_eq_true w3, enterK_eq hcall, f2, decide_eq_true hk, decide_eq_false he, Bool.not_true, Bool.not_false, enterK_eq hg]
                  exact ih
            · have hv' : val c' key = if there = true then some value else none := by rw [heff.other key (fun h => hk (by rw [h]))]; exact hval
              obtain ⟨ex, T', H', hp, ih⟩ := l_Holds0 l v key tv bm Hz hr0 hkc x (i + 1) H2 c' there value hx' h b2 ok2 m2 lom2 hs' hl' hall' hv' hl1
              have hg := q_getsV bm c' key H2 m2 hs' hl' hkc there value hv'
              refine ⟨ex, T', H', hp, fun K => ?_⟩
              have ih := ih K
              rw [Int.natCast_add] at ih
              rw [r_law_ModelHolds_0]
              cases there with
              | true =>
                simp only [if_true, Bool.false_eq_true, if_false] at hg
                simp (disch := first | with_reducible rfl | assumption | omega | rfl | (simp only [go_sem]; first | done | omega)) only [go_sem, ↓reduceIte, reduceCtorEq, Nat.reduceEqDiff, Nat.reduceAdd, Nat.reduceSub, Nat.reduceMul, Nat.reduceDiv, Nat.reduceMod, Nat.reduceLeDiff, Nat.reduceLT, Nat.reduceBEq, Int.reduceEq, Int.reduceBEq, Int.reduceBNe, Int.reduceLT, Int.reduceLE, Int.reduceAdd, Int.reduceSub, Int.reduceNeg, Int.reduceToNat, Int.reducePow, Nat.reducePow, Int.reduceMul, Int.reduceDiv, ↓s_law_ModelHolds_b0, hlen, hlt, hix, hca, hH1, f1, enterK_eq hsh, decide_eq_false w1, decide_eq_false w2, decide_eq_true w3, enterK_eq hcall, f2, decide_eq_false hk, Bool.not_true, Bool.not_false, enterK_eq hg]
                exact ih
              | false =>
                simp only [if_true, Bool.false_eq_true, if_false] at hg
                simp (disch := first | with_reducible rfl | assumption | omega | rfl | (simp only [go_sem]; first | done | omega)) only [go_sem, ↓reduceIte, reduceCtorEq, Nat.reduceEqDiff, Nat.reduceAdd, Nat.reduceSub, Nat.reduceMul, Nat.reduceDiv, Nat.reduceMod, Nat.reduceLeDiff, Nat.reduceLT, Nat.reduceBEq, Int.reduceEq, Int.reduceBEq, Int.reduceBNe, Int.reduceLT, Int.reduceLE, Int.reduceAdd, Int.reduceSub, Int.reduceNeg, Int.reduceToNat, Int.reducePow, Nat.reducePow, Int.reduceMul, Int.reduceDiv, ↓s_law_ModelHolds_b0, hlen, hlt, hix, hca, hH1, f1, enterK_eq hsh, decide_eq_false w1, decide_eq_false w2, decide_eq_true w3, enterK_eq hcall, f2, decide_eq_false hk, Bool.not_true, Bool.not_false, enterK_eq hg]
                exact ih
          · by_cases w4 : a.what = 4
            ·
              obtain ⟨H2, hcall, m2, u2⟩ := q_swapM bm c a.key a.old a.value H1 ok1 m1 hs hlen20
              have heff := eff_swapE hs a.key a.old a.value
              have hs' : Srt (swapE c a.key a.old a.value).2 := srt_swapE hs _ _ _
              have hl' : (swapE c a.key a.old a.value).2.length ≤ 20000 := len_swapE hlen20 _ _ _
              have hall' : AllOk (swapE c a.key a.old a.value).2 := allOk_swapE hall _ _ _
              try simp only at hcall heff
              generalize hw : swapE c a.key a.old a.value = w at *
              obtain ⟨e, c'⟩ := w
              simp only at hcall heff m2 hs' hl' hall'
              have f2 : H2.f H.n = .cells [.int .i64 a.what, .string a.key, .string a.value, .string a.old, .int .i64 a.limit] T.law_Act true := by rw [u2.fr.f (by omega) hno, f1]
              have ok2 := ok1.fr u2.fr
              have b2 : Still Hz H2 := b1'.still.then u2.fr fun d hd h => by have := lom1 d h; omega
              have lom2 : ∀ d, MB H2 bm d → Hz.n ≤ d := fun d h => by rcases u2.mb d h with h | h; · exact lom1 d h
                                                                      · have := b1'.n; omega
              by_cases hk : bl a.key = bl key
              · have hkk : a.key = key := bl_inj hk
                by_cases he : e = 0
                · have hv' : val c' key = if true = true then some a.value else none := by have := heff.self he; rw [hkk] at this; rw [this]; rfl
                  obtain ⟨ex, T', H', hp, ih⟩ := l_Holds0 l v key tv bm Hz hr0 hkc x (i + 1) H2 c' true a.value hx' h b2 ok2 m2 lom2 hs' hl' hall' hv' hl1
                  have hg := q_getsV bm c' key H2 m2 hs' hl' hkc true a.value hv'
                  refine ⟨ex, T', H', hp, fun K => ?_⟩
                  have ih := ih K
                  rw [Int.natCast_add] at ih
                  rw [r_law_ModelHolds_0]
                  simp only [if_true, Bool.false_eq_true, if_false] at hg
                  simp (disch := first | with_reducible rfl | assumption | omega | rfl | (simp only [go_sem]; first | done | omega)) only [go_sem, ↓reduceIte, reduceCtorEq, Nat.reduceEqDiff, Nat.reduceAdd, Nat.reduceSub, Nat.reduceMul, Nat.reduceDiv, Nat.reduceMod, Nat.reduceLeDiff, Nat.reduceLT, Nat.reduceBEq, Int.reduceEq, Int.reduceBEq, Int.reduceBNe, Int.reduceLT, Int.reduceLE, Int.reduceAdd, Int.reduceSub, Int.reduceNeg, Int.reduceToNat, Int.reducePow, Nat.reducePow, Int.reduceMul, Int.reduceDiv, ↓s_law_ModelHolds_b0, hlen, hlt, hix, hca, hH1, f1, enterK_eq hsh, decide_eq_false w1, decide_eq_false w2, decide_eq_false w3, decide_eq_true w4, enterK_eq hcall, f2, decide_eq_true hk, decide_eq_true he, decide_eq_false w3, Bool.not_true, Bool.not_false, enterK_eq hg]
                  exact ih
                · have hv' : val c' key = if there = true then some value else none := by rw [heff.err he]; exact hval
                  obtain ⟨ex, T', H', hp, ih⟩ := l_Holds0 l v key tv bm Hz hr0 hkc x (i + 1) H2 c' there value hx' h b2 ok2 m2 lom2 hs' hl' hall' hv' hl1
                  have hg := q_getsV bm c' key H2 m2 hs' hl' hkc there value hv'
                  refine ⟨ex, T', H', hp, fun K => ?_⟩
                  have ih := ih K
                  rw [Int.natCast_add] at ih
                  rw [r_law_ModelHolds_0]
                  cases there with
                  | true =>
                    simp only [if_true, Bool.false_eq_true, if_false] at hg
                    simp (disch := first | with_reducible rfl | assumption | omega | rfl | (simp only [go_sem]; first | done | omega)) only [go_sem, ↓reduceIte, reduceCtorEq, Nat.reduceEqDiff, Nat.reduceAdd, Nat.reduceSub, Nat.reduceMul, Nat.reduceDiv, Nat.reduceMod, Nat.reduceLeDiff, Nat.reduceLT, Nat.reduceBEq, Int.reduceEq, Int.reduceBEq, Int.reduceBNe, Int.reduceLT, Int.reduceLE, Int.reduceAdd, Int.reduceSub, Int.reduceNeg, Int.reduceToNat, Int.reducePow, Nat.reducePow, Int.reduceMul, Int.reduceDiv, ↓s_law_ModelHolds_b0, hlen, hlt, hix, hca, hH1, f1, enterK_eq hsh, decide_eq_false w1, decide_eq_false w2, decide_eq_false w3, decide_eq_true w4, enterK_eq hcall, f2, decide_eq_true hk, decide_eq_false he, Bool.not_true, Bool.not_false, enterK_eq hg]
                    exact ih
                  | false =>
                    simp only [if_true, Bool.false_eq_true, if_false] at hg
                    simp (disch := first | with_reducible rfl | assumption | omega | rfl | (simp only [go_sem]; first | done | omega)) only [go_sem, ↓reduceIte, reduceCtorEq, Nat.reduceEqDiff, Nat.reduceAdd, Nat.reduceSub, Nat.reduceMul, Nat.reduceDiv, Nat.reduceMod, Nat.reduceLeDiff, Nat.reduceLT, Nat.reduceBEq, Int.reduceEq, Int.reduceBEq, Int.reduceBNe, Int.reduceLT, Int.reduceLE, Int.reduceAdd, Int.reduceSub, Int.reduceNeg, Int.reduceToNat, Int.reducePow, Nat.reducePow, Int.reduceMul, Int.reduceDiv, ↓s_law_ModelHolds_b0, hlen, hlt, hix, hca, hH1, f1, enterK_eq hsh, decide_eq_false w1, decide_eq_false w2, decide_eq_false w3, decide_eq_true w4, enterK_eq hcall, f2, decide_eq_true hk, decide_eq_false he, Bool.not_true, Bool.not_false, enterK_eq hg]
                    exact ih
              · have hv' : val c' key = if there = true then some value else none := by rw [heff.other key (fun h => hk (by rw [h]))]; exact hval
                obtain ⟨ex, T', H', hp, ih⟩ := l_Holds0 l v key tv bm Hz hr0 hkc x (i + 1) H2 c' there value hx' h b2 ok2 m2 lom2 hs' hl' hall' hv' hl1
                have hg := q_getsV bm c' key H2 m2 hs' hl' hkc there value hv'
                refine ⟨ex, T', H', hp, fun K => ?_⟩
                have ih := ih K
                rw [Int.natCast_add] at ih
                rw [r_law_ModelHolds_0]
                cases there with
                | true =>
                  simp only [if_true, Bool.false_eq_true, if_false] at hg
                  simp (disch := first | with_reducible rfl | assumption | omega | rfl | (simp only [go_sem]; first | done | omega)) only [go_sem, ↓reduceIte, reduceCtorEq, Nat.reduceEqDiff, Nat.reduceAdd, Nat.reduceSub, Nat.reduceMul, Nat.reduceDiv, Nat.reduceMod, Nat.reduceLeDiff, Nat.reduceLT, Nat.reduceBEq, Int.reduceEq, Int.reduceBEq, Int.reduceBNe, Int.reduceLT, Int.reduceLE, Int.reduceAdd, Int.reduceSub, Int.reduceNeg, Int.reduceToNat, Int.reducePow, Nat.reducePow, Int.reduceMul, Int.reduceDiv, ↓s_law_ModelHolds_b0, hlen, hlt, hix, hca, hH1, f1, enterK_eq hsh, decide_eq_false w1, decide_eq_false w2, decide_eq_false w3, decide_eq_true w4, enterK_eq hcall, f2, decide_eq_false hk, Bool.not_true, Bool.not_false, enterK_eq hg]
                  exact ih
                | false =>
                  simp only [if_true, Bool.false_eq_true, if_false] at hg
                  simp (disch := first | with_reducible rfl | assumption | omega | rfl | (simp only [go_sem]; first | done | omega)) only [go_sem, ↓reduceIte, reduceCtorEq, Nat.reduceEqDiff, Nat.reduceAdd, Nat.reduceSub, Nat.reduceMul, Nat.reduceDiv, Nat.reduceMod, Nat.reduceLeDiff, Nat.reduceLT, Nat.reduceBEq, Int.reduceEq, Int.reduceBEq, Int.reduceBNe, Int.reduceLT, Int.reduceLE, Int.reduceAdd, Int.reduceSub, Int.reduceNeg, Int.reduceToNat, Int.reducePow, Nat.reducePow, Int.reduceMul, Int.reduceDiv, ↓s_law_ModelHolds_b0, hlen, hlt, hix, hca, hH1, f1, enterK_eq hsh, decide_eq_false w1, decide_eq_false w2, decide_eq_false w3, decide_eq_true w4, enterK_eq hcall, f2, decide_eq_false hk, Bool.not_true, Bool.not_false, enterK_eq hg]
                  exact ih
            · obtain ⟨ex, T', H', hp, ih⟩ := l_Holds0 l v key tv bm Hz hr0 hkc x (i + 1) H1 c there value hx' h b1' ok1 m1 lom1 hs hlen20 hall hval hl1
              refine ⟨ex, T', H', hp, fun K => ?_⟩
              have ih := ih K
              rw [Int.natCast_add] at ih
              rw [r_law_ModelHolds_0]
              simp (disch := first | with_reducible rfl | assumption | omega | rfl | (simp only [go_sem]; first | done | omega)) only [go_sem, ↓reduceIte, reduceCtorEq, Nat.reduceEqDiff, Nat.reduceAdd, Nat.reduceSub, Nat.reduceMul, Nat.reduceDiv, Nat.reduceMod, Nat.reduceLeDiff, Nat.reduceLT, Nat.reduceBEq, Int.reduceEq, Int.reduceBEq, Int.reduceBNe, Int.reduceLT, Int.reduceLE, Int.reduceAdd, Int.reduceSub, Int.reduceNeg, Int.reduceToNat, Int.reducePow, Nat.reducePow, Int.reduceMul, Int.reduceDiv, ↓s_law_ModelHolds_b0, hlen, hlt, hix, hca, hH1, f1, enterK_eq hsh, decide_eq_false w1, decide_eq_false w2, decide_eq_false w3, decide_eq_false w4]
              exact ih

end Go.Proofs.Ytlagijfkkpbbnaa
