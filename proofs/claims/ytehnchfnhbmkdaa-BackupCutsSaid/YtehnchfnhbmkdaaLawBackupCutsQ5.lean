/-
  13 texts in one (merge.py): I Eng31 J L M N O ShBackupCuts DsBackupCuts Eng27 Eng32 P LawBackupCuts.
  Conditions: none. By an AI agent.
-/
import Derived.Test.YtehnchfnhbmkdaaLawBackupCutsQ4
import Derived.Test.YtehnchfnhbmkdaaChecked
import Derived.KernelRfl
import Derived.ChangeArms
import Derived.DataReads
import Derived.ChangeShapes
import Derived.WideShapes
import Derived.Test.YtehnchfnhbmkdaaRows
import Derived.WalkKit
import Derived.ProofKit
import Derived.OpenShut
import Derived.ShutString
import Derived.ChangeOld
import Derived.Below
import Derived.SizedLaws
import Derived.Carry

/-
  Chapter 48: the law's own joined.
  Conditions: none. By an AI agent.
-/
set_option maxRecDepth 10000
set_option linter.unusedSimpArgs false
set_option linter.unusedVariables false
namespace Go.Proofs.Ytehnchfnhbmkdaa
open Go Eng

theorem srcT_cells (s : List UInt8) : srcT (.string (mk s)) = some (s.length, EB.cells s) := by
  show some ((bl (mk s)).length, (bl (mk s)).map byteCell) = _
  rw [bl_mk, EB_cells]

/-- In a heap in which nothing that was in H0 has turned, a row of its own made since. -/
structure Since (H0 H : AHeap) (v : Value) (l : List UInt8) : Prop where
  still : Still H0 H
  own : Own EB H T.uint8 v l
  new : ∀ b, blockOf v = some b → H0.n ≤ b
theorem Since.nil {H : AHeap} : Since H H (.slice none 0 0) [] := ⟨Fr.refl H, .inl ⟨rfl, rfl⟩, fun b h => by cases h⟩
theorem Since.app {H0 H : AHeap} {v : Value} {l : List UInt8} (r : Since H0 H v l) (m : List UInt8) {src : Option (Nat × List Value)} (hsrc : src = some (m.length, EB.cells m)) (hb : l.length + m.length ≤ 1000000000000) :
    ∃ v' H', Eng.app T.uint8 1 1 v src H = some (v', H') ∧ Since H0 H' v' (l ++ m) := by
  obtain ⟨v', H', e1, e2, e3, e4⟩ := r.own.appA m (sz := 1) (bytes := 1) rfl (by omega) (by omega) hsrc
  refine ⟨v', H', e1, r.still.then e3 fun b hb h => ?_, e2, fun b h => ?_⟩
  · unfold OnlyOf at h; have := r.new b h; omega
  · rcases e4 with h4 | h4
    · rw [h4] at h; exact r.new b h
    · rw [h4] at h; cases h; exact r.still.n

theorem l_jd4t (ls : List (List UInt8)) (v : Value) (H : AHeap) (hr : Rds H v ls) (hl : ls.length ≤ 1000000000) (hok : ls.all okP = true) (x n out : Value) (at_ : Int) : ∀ (t : List (List UInt8)) (i : Nat), ls.drop i = t →
    ∀ K : K, l_law_joined_4 v x n out (.int .i64 at_) (.bool true) (.int .i64 (i : Int)) H (blkK [0, 10, 12, 27, 28, 29] 8 K) = K .normal [(0, v), (10, x), (12, n), (27, out), (28, .int .i64 at_), (29, .bool true)] H
  | [], i, hx, K => by
    have h : ls.length ≤ i := List.drop_eq_nil_iff.1 hx
    have hlt : ¬ (i : Int) < (ls.length : Int) := by omega
    have hlen := hr.lenS
    rw [r_law_joined_4]
    simp (disch := first | with_reducible rfl | assumption | omega | rfl | (simp only [go_sem]; first | done | omega)) only [go_sem, ↓reduceIte, reduceCtorEq, Nat.reduceEqDiff, Nat.reduceAdd, Nat.reduceSub, Nat.reduceMul, Nat.reduceDiv, Nat.reduceMod, Nat.reduceLeDiff, Nat.reduceLT, Nat.reduceBEq, Int.reduceEq, Int.reduceBEq, Int.reduceBNe, Int.reduceLT, Int.reduceLE, Int.reduceAdd, Int.reduceSub, Int.reduceNeg, Int.reduceToNat, Int.reducePow, Nat.reducePow, Int.reduceMul, Int.reduceDiv, ↓s_law_joined_b4, hlen, hlt]
  | p :: t, i, hx, K => by
    obtain ⟨h, hxa, hx'⟩ := drop_cons hx
    have hlt : (i : Int) < (ls.length : Int) := by omega
    have hlen := hr.lenS
    obtain ⟨b1, o1, y1, i1, c1, r1, _⟩ := hr.at h
    rw [hxa] at r1
    have hop : okP p = true := List.all_eq_true.1 hok p (by rw [← hxa]; exact List.getElem_mem _)
    have hp := q_part p y1 H r1 (okP_len hop).1
    have ih := l_jd4t ls v H hr hl hok x n out at_ t (i + 1) hx' K
    by_cases e1 : prI p = at_
    · have e1' : (prI p = at_) = True := by simp [e1]
      rw [r_law_joined_4]
      simp (disch := first | with_reducible rfl | assumption | omega | rfl | (simp only [go_sem]; first | done | omega)) only [go_sem, ↓reduceIte, reduceCtorEq, Nat.reduceEqDiff, Nat.reduceAdd, Nat.reduceSub, Nat.reduceMul, Nat.reduceDiv, Nat.reduceMod, Nat.reduceLeDiff, Nat.reduceLT, Nat.reduceBEq, Int.reduceEq, Int.reduceBEq, Int.reduceBNe, Int.reduceLT, Int.reduceLE, Int.reduceAdd, Int.reduceSub, Int.reduceNeg, Int.reduceToNat, Int.reducePow, Nat.reducePow, Int.reduceMul, Int.reduceDiv, ↓s_law_joined_b4, hlen, hlt, i1, c1, enterK_eq hp, e1']
      exact ih
    · rw [r_law_joined_4]
      simp (disch := first | with_reducible rfl | assumption | omega | rfl | (simp only [go_sem]; first | done | omega)) only [go_sem, ↓reduceIte, reduceCtorEq, Nat.reduceEqDiff, Nat.reduceAdd, Nat.reduceSub, Nat.reduceMul, Nat.reduceDiv, Nat.reduceMod, Nat.reduceLeDiff, Nat.reduceLT, Nat.reduceBEq, Int.reduceEq, Int.reduceBEq, Int.reduceBNe, Int.reduceLT, Int.reduceLE, Int.reduceAdd, Int.reduceSub, Int.reduceNeg, Int.reduceToNat, Int.reducePow, Nat.reducePow, Int.reduceMul, Int.reduceDiv, ↓s_law_joined_b4, hlen, hlt, i1, c1, enterK_eq hp, e1]
      exact ih

theorem l_jd4 (ls : List (List UInt8)) (v : Value) (H0 : AHeap) (hr : Rds H0 v ls) (hl : ls.length ≤ 1000000000) (hok : ls.all okP = true) (hsz : ∀ p ∈ ls, p.length ≤ 1000000000) (x n : Value) (at_ : Int) (H : AHeap) (out : Value) (o : List UInt8) (so : Since H0 H out o) (ho : o.length ≤ 900000000000) : ∀ (t : List (List UInt8)) (i : Nat), ls.drop i = t →
    (fnd t at_ = none → ∀ K : K, l_law_joined_4 v x n out (.int .i64 at_) (.bool false) (.int .i64 (i : Int)) H (blkK [0, 10, 12, 27, 28, 29] 8 K) = K .normal [(0, v), (10, x), (12, n), (27, out), (28, .int .i64 at_), (29, .bool false)] H) ∧
    (∀ s, fnd t at_ = some s → ∃ out' H', (∀ K : K, l_law_joined_4 v x n out (.int .i64 at_) (.bool false) (.int .i64 (i : Int)) H (blkK [0, 10, 12, 27, 28, 29] 8 K) = K .normal [(0, v), (10, x), (12, n), (27, out'), (28, .int .i64 at_), (29, .bool true)] H') ∧ Since H0 H' out' (o ++ s))
  | [], i, hx => by
    have h : ls.length ≤ i := List.drop_eq_nil_iff.1 hx
    have hlt : ¬ (i : Int) < (ls.length : Int) := by omega
    have hlen := hr.lenS
    exact ⟨fun _ K => by rw [r_law_joined_4]; simp (disch := first | with_reducible rfl | assumption | omega | rfl | (simp only [go_sem]; first | done | omega)) only [go_sem, ↓reduceIte, reduceCtorEq, Nat.reduceEqDiff, Nat.reduceAdd, Nat.reduceSub, Nat.reduceMul, Nat.reduceDiv, Nat.reduceMod, Nat.reduceLeDiff, Nat.reduceLT, Nat.reduceBEq, Int.reduceEq, Int.reduceBEq, Int.reduceBNe, Int.reduceLT, Int.reduceLE, Int.reduceAdd, Int.reduceSub, Int.reduceNeg, Int.reduceToNat, Int.reducePow, Nat.reducePow, Int.reduceMul, Int.reduceDiv, ↓s_law_joined_b4, hlen, hlt], fun s h => by simp [fnd] at h⟩
  | p :: t, i, hx => by
    obtain ⟨h, hxa, hx'⟩ := drop_cons hx
    have hlt : (i : Int) < (ls.length : Int) := by omega
    have hlen := hr.lenS
    have hr1 := hr.still so.still
    obtain ⟨b1, o1, y1, i1, c1, r1, _⟩ := hr1.at h
    rw [hxa] at r1
    have hmem : p ∈ ls := by rw [← hxa]; exact List.getElem_mem _
    have hop : okP p = true := List.all_eq_true.1 hok p hmem
    have hp := q_part p y1 H r1 (okP_len hop).1
    obtain ⟨k1, k2⟩ := l_jd4 ls v H0 hr hl hok hsz x n at_ H out o so ho t (i + 1) hx'
    rw [fnd]
    by_cases e1 : prI p = at_
    · rw [if_pos e1]
      have e1' : (prI p = at_) = True := by simp [e1]
      have hpl := hsz p hmem
      obtain ⟨out', H', a1, so'⟩ := so.app (p.drop 8) (srcT_cells (p.drop 8)) (by simp; omega)
      refine ⟨fun h => by simp at h, fun s hs => ?_⟩
      cases hs
      refine ⟨out', H', fun K => ?_, so'⟩
      have hT := l_jd4t ls v H' (hr.still so'.still) hl hok x n out' at_ t (i + 1) hx' K
      rw [r_law_joined_4]
      simp (disch := first | with_reducible rfl | assumption | omega | rfl | (simp only [go_sem]; first | done | omega)) only [go_sem, ↓reduceIte, reduceCtorEq, Nat.reduceEqDiff, Nat.reduceAdd, Nat.reduceSub, Nat.reduceMul, Nat.reduceDiv, Nat.reduceMod, Nat.reduceLeDiff, Nat.reduceLT, Nat.reduceBEq, Int.reduceEq, Int.reduceBEq, Int.reduceBNe, Int.reduceLT, Int.reduceLE, Int.reduceAdd, Int.reduceSub, Int.reduceNeg, Int.reduceToNat, Int.reducePow, Nat.reducePow, Int.reduceMul, Int.reduceDiv, ↓s_law_joined_b4, hlen, hlt, i1, c1, enterK_eq hp, e1', a1]
      exact hT
    · rw [if_neg e1]
      refine ⟨fun h2 K => ?_, fun s hs => ?_⟩
      · have := k1 h2 K
        rw [r_law_joined_4]
        simp (disch := first | with_reducible rfl | assumption | omega | rfl | (simp only [go_sem]; first | done | omega)) only [go_sem, ↓reduceIte, reduceCtorEq, Nat.reduceEqDiff, Nat.reduceAdd, Nat.reduceSub, Nat.reduceMul, Nat.reduceDiv, Nat.reduceMod, Nat.reduceLeDiff, Nat.reduceLT, Nat.reduceBEq, Int.reduceEq, Int.reduceBEq, Int.reduceBNe, Int.reduceLT, Int.reduceLE, Int.reduceAdd, Int.reduceSub, Int.reduceNeg, Int.reduceToNat, Int.reducePow, Nat.reducePow, Int.reduceMul, Int.reduceDiv, ↓s_law_joined_b4, hlen, hlt, i1, c1, enterK_eq hp, e1]
        exact this
      · obtain ⟨out', H', e2, e3⟩ := k2 s hs
        refine ⟨out', H', fun K => ?_, e3⟩
        have := e2 K
        rw [r_law_joined_4]
        simp (disch := first | with_reducible rfl | assumption | omega | rfl | (simp only [go_sem]; first | done | omega)) only [go_sem, ↓reduceIte, reduceCtorEq, Nat.reduceEqDiff, Nat.reduceAdd, Nat.reduceSub, Nat.reduceMul, Nat.reduceDiv, Nat.reduceMod, Nat.reduceLeDiff, Nat.reduceLT, Nat.reduceBEq, Int.reduceEq, Int.reduceBEq, Int.reduceBNe, Int.reduceLT, Int.reduceLE, Int.reduceAdd, Int.reduceSub, Int.reduceNeg, Int.reduceToNat, Int.reducePow, Nat.reducePow, Int.reduceMul, Int.reduceDiv, ↓s_law_joined_b4, hlen, hlt, i1, c1, enterK_eq hp, e1]
        exact this

theorem fnd_len {ls : List (List UInt8)} {i : Int} {s : List UInt8} (h : fnd ls i = some s) : ∃ p ∈ ls, prI p = i ∧ s = p.drop 8 := by
  induction ls with
  | nil => simp [fnd] at h
  | cons p t ih =>
    rw [fnd] at h
    split at h
    · cases h; exact ⟨p, by simp, by assumption, rfl⟩
    · obtain ⟨q, h1, h2⟩ := ih h
      exact ⟨q, by simp [h1], h2⟩
theorem outs_len {ls : List (List UInt8)} (hsz : ∀ p ∈ ls, p.length ≤ 5000000) : ∀ {k : Nat} {o : List UInt8}, outs ls k = some o → o.length ≤ k * 5000000
  | 0, o, h => by cases h; simp
  | k + 1, o, h => by
    rw [outs] at h
    obtain ⟨o1, h1, h2⟩ := Option.bind_eq_some_iff.1 h
    obtain ⟨s, h3, rfl⟩ := Option.map_eq_some_iff.1 h2
    obtain ⟨p, hp, _, rfl⟩ := fnd_len h3
    have := outs_len hsz h1
    have := hsz p hp
    simp
    omega
theorem outs_none {ls : List (List UInt8)} {k : Nat} (h : outs ls k = none) : ∀ {m : Nat}, k ≤ m → outs ls m = none
  | 0, hm => by have : k = 0 := by omega
                subst this; exact h
  | m + 1, hm => by
    by_cases e : k = m + 1
    · rw [← e]; exact h
    · rw [outs, outs_none h (by omega)]; rfl

theorem l_jd3 (ls : List (List UInt8)) (v : Value) (H0 : AHeap) (hr : Rds H0 v ls) (hl : ls.length ≤ 1000000000) (hok : ls.all okP = true) (hsz : ∀ p ∈ ls, p.length ≤ 5000000) (x : Int) (n : Nat) (hn : n ≤ 65536) : ∀ (m k : Nat) (H : AHeap) (out : Value) (o : List UInt8), k + m = n → outs ls k = some o → Since H0 H out o →
    (outs ls n = none → ∃ H', Still H0 H' ∧ ∀ K : K, l_law_joined_3 v (.int .i64 x) (.int .i64 (n : Int)) out (.int .i64 (k : Int)) H (blkK [10, 27] 6 K) = K .ret [(2, .slice none 0 0), (3, .int .i64 4)] H') ∧
    (∀ o', outs ls n = some o' → ∃ out' H', Since H0 H' out' o' ∧ ∀ K : K, l_law_joined_3 v (.int .i64 x) (.int .i64 (n : Int)) out (.int .i64 (k : Int)) H (blkK [10, 27] 6 K) = K .normal [(10, .int .i64 x), (27, out')] H')
  | 0, k, H, out, o, hkm, ho, so => by
    obtain rfl : k = n := by omega
    have hlt : ¬ (k : Int) < (k : Int) := by omega
    refine ⟨fun h => absurd (ho.symm.trans h) (by simp), fun o' h => ?_⟩
    rw [ho] at h; cases h
    refine ⟨out, H, so, fun K => ?_⟩
    rw [r_law_joined_3]
    simp (disch := first | with_reducible rfl | assumption | omega | rfl | (simp only [go_sem]; first | done | omega)) only [go_sem, ↓reduceIte, reduceCtorEq, Nat.reduceEqDiff, Nat.reduceAdd, Nat.reduceSub, Nat.reduceMul, Nat.reduceDiv, Nat.reduceMod, Nat.reduceLeDiff, Nat.reduceLT, Nat.reduceBEq, Int.reduceEq, Int.reduceBEq, Int.reduceBNe, Int.reduceLT, Int.reduceLE, Int.reduceAdd, Int.reduceSub, Int.reduceNeg, Int.reduceToNat, Int.reducePow, Nat.reducePow, Int.reduceMul, Int.reduceDiv, ↓s_law_joined_b3, hlt]
  | m + 1, k, H, out, o, hkm, ho, so => by
    have hlt : (k : Int) < (n : Int) := by omega
    have hol := outs_len hsz ho
    obtain ⟨j1, j2⟩ := l_jd4 ls v H0 hr hl hok (fun p hp => by have := hsz p hp; omega) (.int .i64 x) (.int .i64 (n : Int)) (k : Int) H out o so (by omega) ls 0 (by simp)
    cases hf : fnd ls (k : Int) with
    | none =>
      have hk1 : outs ls (k + 1) = none := by rw [outs, ho, hf]; rfl
      have hnn := outs_none hk1 (m := n) (by omega)
      have j1 : ∀ K : K, l_law_joined_4 v (.int .i64 x) (.int .i64 (n : Int)) out (.int .i64 (k : Int)) (.bool false) (.int .i64 0) H (blkK [0, 10, 12, 27, 28, 29] 8 K) = K .normal [(0, v), (10, .int .i64 x), (12, .int .i64 (n : Int)), (27, out), (28, .int .i64 (k : Int)), (29, .bool false)] H := j1 hf
      refine ⟨fun _ => ⟨H, so.still, fun K => ?_⟩, fun o' h => absurd (hnn.symm.trans h) (by simp)⟩
      rw [r_law_joined_3]
      simp (disch := first | with_reducible rfl | assumption | omega | rfl | (simp only [go_sem]; first | done | omega)) only [go_sem, ↓reduceIte, reduceCtorEq, Nat.reduceEqDiff, Nat.reduceAdd, Nat.reduceSub, Nat.reduceMul, Nat.reduceDiv, Nat.reduceMod, Nat.reduceLeDiff, Nat.reduceLT, Nat.reduceBEq, Int.reduceEq, Int.reduceBEq, Int.reduceBNe, Int.reduceLT, Int.reduceLE, Int.reduceAdd, Int.reduceSub, Int.reduceNeg, Int.reduceToNat, Int.reducePow, Nat.reducePow, Int.reduceMul, Int.reduceDiv, ↓s_law_joined_b3, hlt, j1]
    | some s =>
      obtain ⟨out1, H1, e1, so1⟩ := j2 s hf
      have hk1 : outs ls (k + 1) = some (o ++ s) := by rw [outs, ho, hf]; rfl
      have e1 : ∀ K : K, l_law_joined_4 v (.int .i64 x) (.int .i64 (n : Int)) out (.int .i64 (k : Int)) (.bool false) (.int .i64 0) H (blkK [0, 10, 12, 27, 28, 29] 8 K) = K .normal [(0, v), (10, .int .i64 x), (12, .int .i64 (n : Int)), (27, out1), (28, .int .i64 (k : Int)), (29, .bool true)] H1 := e1
      obtain ⟨g1, g2⟩ := l_jd3 ls v H0 hr hl hok hsz x n hn m (k + 1) H1 out1 (o ++ s) (by omega) hk1 so1
      refine ⟨fun h => ?_, fun o' h => ?_⟩
      · obtain ⟨H', s', e2⟩ := g1 h
        refine ⟨H', s', fun K => ?_⟩
        have := e2 K
        rw [r_law_joined_3]
        simp (disch := first | with_reducible rfl | assumption | omega | rfl | (simp only [go_sem]; first | done | omega)) only [go_sem, ↓reduceIte, reduceCtorEq, Nat.reduceEqDiff, Nat.reduceAdd, Nat.reduceSub, Nat.reduceMul, Nat.reduceDiv, Nat.reduceMod, Nat.reduceLeDiff, Nat.reduceLT, Nat.reduceBEq, Int.reduceEq, Int.reduceBEq, Int.reduceBNe, Int.reduceLT, Int.reduceLE, Int.reduceAdd, Int.reduceSub, Int.reduceNeg, Int.reduceToNat, Int.reducePow, Nat.reducePow, Int.reduceMul, Int.reduceDiv, ↓s_law_joined_b3, hlt, e1]
        exact this
      · obtain ⟨out', H', s', e2⟩ := g2 o' h
        refine ⟨out', H', s', fun K => ?_⟩
        have := e2 K
        rw [r_law_joined_3]
        simp (disch := first | with_reducible rfl | assumption | omega | rfl | (simp only [go_sem]; first | done | omega)) only [go_sem, ↓reduceIte, reduceCtorEq, Nat.reduceEqDiff, Nat.reduceAdd, Nat.reduceSub, Nat.reduceMul, Nat.reduceDiv, Nat.reduceMod, Nat.reduceLeDiff, Nat.reduceLT, Nat.reduceBEq, Int.reduceEq, Int.reduceBEq, Int.reduceBNe, Int.reduceLT, Int.reduceLE, Int.reduceAdd, Int.reduceSub, Int.reduceNeg, Int.reduceToNat, Int.reducePow, Nat.reducePow, Int.reduceMul, Int.reduceDiv, ↓s_law_joined_b3, hlt, e1]
        exact this

theorem toNat_lt {p : List UInt8} : (prN p).toNat < 65536 := by have := (pr_lt p).2.2; omega

theorem q_joined (ls : List (List UInt8)) (v : Value) (H : AHeap) (hr : Rds H v ls) (hl : ls.length ≤ 1000000) (hsz : ∀ p ∈ ls, p.length ≤ 5000000) :
    ∃ v' H', CC F.law_joined [v] H = some (.tuple #[v', .int .i64 (jn ls).2], H') ∧ BR H' v' (jn ls).1 ∧ Still H H' := by
  have hlen := hr.lenS
  obtain ⟨z1, z2⟩ := l_jd0 ls v H hr (by omega) ls 0 (by simp)
  unfold jn
  cases hok : ls.all okP with
  | false =>
    have z2 : ∀ K : K, l_law_joined_0 v (.int .i64 0) H (blkK [0] 0 K) = K .ret [(2, .slice none 0 0), (3, .int .i64 12)] H := z2 hok
    refine ⟨.slice none 0 0, H, ?_, RdS.nil, Fr.refl H⟩
    apply pure_of _ (d_law_joined _ H) rfl
    rotate_left 2
    · simp (disch := first | with_reducible rfl | assumption | omega | rfl | (simp only [go_sem]; first | done | omega)) only [go_sem, ↓reduceIte, reduceCtorEq, Nat.reduceEqDiff, Nat.reduceAdd, Nat.reduceSub, Nat.reduceMul, Nat.reduceDiv, Nat.reduceMod, Nat.reduceLeDiff, Nat.reduceLT, Nat.reduceBEq, Int.reduceEq, Int.reduceBEq, Int.reduceBNe, Int.reduceLT, Int.reduceLE, Int.reduceAdd, Int.reduceSub, Int.reduceNeg, Int.reduceToNat, Int.reducePow, Nat.reducePow, Int.reduceMul, Int.reduceDiv, ↓s_law_joined, z2]
      rfl
    · (repeat (first | exact Fr.refl _ | refine Fr.push ?_ _ | refine Fr.set ?_ _ _ (by intro h; first | omega | (simp only [go_sem] at h; omega))))
  | true =>
    have z1 : ∀ K : K, l_law_joined_0 v (.int .i64 0) H (blkK [0] 0 K) = K .normal [(0, v)] H := z1 hok
    simp only [if_true]
    cases hls : ls with
    | nil =>
      rw [hls] at hlen
      have hlen : lenS v = some (.int .i64 0) := hlen
      refine ⟨.slice none 0 0, H, ?_, RdS.nil, Fr.refl H⟩
      apply pure_of _ (d_law_joined _ H) rfl
      rotate_left 2
      · simp (disch := first | with_reducible rfl | assumption | omega | rfl | (simp only [go_sem]; first | done | omega)) only [go_sem, ↓reduceIte, reduceCtorEq, Nat.reduceEqDiff, Nat.reduceAdd, Nat.reduceSub, Nat.reduceMul, Nat.reduceDiv, Nat.reduceMod, Nat.reduceLeDiff, Nat.reduceLT, Nat.reduceBEq, Int.reduceEq, Int.reduceBEq, Int.reduceBNe, Int.reduceLT, Int.reduceLE, Int.reduceAdd, Int.reduceSub, Int.reduceNeg, Int.reduceToNat, Int.reducePow, Nat.reducePow, Int.reduceMul, Int.reduceDiv, ↓s_law_joined, z1, hlen]
        rfl
      · (repeat (first | exact Fr.refl _ | refine Fr.push ?_ _ | refine Fr.set ?_ _ _ (by intro h; first | omega | (simp only [go_sem] at h; omega))))
    | cons p t =>
      simp only
      rw [← hls]
      have hpos : 0 < ls.length := by rw [hls]; simp
      have hne : ¬ (ls.length : Int) = 0 := by omega
      obtain ⟨b1, o1, y1, i1, c1, r1, _⟩ := hr.at hpos
      have hp0 : ls[0] = p := by simp [hls]
      rw [hp0] at r1
      have hop : okP p = true := List.all_eq_true.1 hok p (by rw [hls]; simp)
      have hp := q_part p y1 H r1 (okP_len hop).1
      have i1 : ixS 1 v (.int .i64 0) = some (.pointer (some ⟨b1, o1, none⟩)) := i1
      obtain ⟨w1, w2⟩ := l_jd1 ls v H hr (by omega) hok (prX p) (prN p) ls 0 (by simp)
      rw [List.take_zero] at w1 w2
      cases h11 : ok11 (prX p) (prN p) [] ls with
      | false =>
        have w2 : ∀ K : K, l_law_joined_1 v (.int .i64 (prX p)) (.int .i64 (prN p)) (.int .i64 0) H (blkK [0, 10, 12] 2 K) = K .ret [(2, .slice none 0 0), (3, .int .i64 11)] H := w2 h11
        refine ⟨.slice none 0 0, H, ?_, RdS.nil, Fr.refl H⟩
        apply pure_of _ (d_law_joined _ H) rfl
        rotate_left 2
        · simp (disch := first | with_reducible rfl | assumption | omega | rfl | (simp only [go_sem]; first | done | omega)) only [go_sem, ↓reduceIte, reduceCtorEq, Nat.reduceEqDiff, Nat.reduceAdd, Nat.reduceSub, Nat.reduceMul, Nat.reduceDiv, Nat.reduceMod, Nat.reduceLeDiff, Nat.reduceLT, Nat.reduceBEq, Int.reduceEq, Int.reduceBEq, Int.reduceBNe, Int.reduceLT, Int.reduceLE, Int.reduceAdd, Int.reduceSub, Int.reduceNeg, Int.reduceToNat, Int.reducePow, Nat.reducePow, Int.reduceMul, Int.reduceDiv, ↓s_law_joined, z1, hlen, hne, i1, c1, enterK_eq hp, w2]
          rfl
        · (repeat (first | exact Fr.refl _ | refine Fr.push ?_ _ | refine Fr.set ?_ _ _ (by intro h; first | omega | (simp only [go_sem] at h; omega))))
      | true =>
        have w1 : ∀ K : K, l_law_joined_1 v (.int .i64 (prX p)) (.int .i64 (prN p)) (.int .i64 0) H (blkK [0, 10, 12] 2 K) = K .normal [(0, v), (10, .int .i64 (prX p)), (12, .int .i64 (prN p))] H := w1 h11
        simp only [if_true]
        have hN : (prN p) = ((prN p).toNat : Int) := by have := (pr_lt p).2.2; omega
        have hNl := toNat_lt (p := p)
        obtain ⟨g1, g2⟩ := l_jd3 ls v H hr (by omega) hok hsz (prX p) (prN p).toNat (by omega) (prN p).toNat 0 H (.slice none 0 0) [] (by omega) rfl Since.nil
        rw [← hN] at g1 g2
        cases ho : outs ls (prN p).toNat with
        | none =>
          obtain ⟨H', s', e2⟩ := g1 ho
          have e2 : ∀ K : K, l_law_joined_3 v (.int .i64 (prX p)) (.int .i64 (prN p)) (.slice none 0 0) (.int .i64 0) H (blkK [10, 27] 6 K) = K .ret [(2, .slice none 0 0), (3, .int .i64 4)] H' := e2
          refine ⟨.slice none 0 0, H, ?_, RdS.nil, Fr.refl H⟩
          apply pure_of _ (d_law_joined _ H) rfl
          rotate_left 2
          · simp (disch := first | with_reducible rfl | assumption | omega | rfl | (simp only [go_sem]; first | done | omega)) only [go_sem, ↓reduceIte, reduceCtorEq, Nat.reduceEqDiff, Nat.reduceAdd, Nat.reduceSub, Nat.reduceMul, Nat.reduceDiv, Nat.reduceMod, Nat.reduceLeDiff, Nat.reduceLT, Nat.reduceBEq, Int.reduceEq, Int.reduceBEq, Int.reduceBNe, Int.reduceLT, Int.reduceLE, Int.reduceAdd, Int.reduceSub, Int.reduceNeg, Int.reduceToNat, Int.reducePow, Nat.reducePow, Int.reduceMul, Int.reduceDiv, ↓s_law_joined, z1, hlen, hne, i1, c1, enterK_eq hp, w1, e2]
            rfl
          · exact s'
        | some o =>
          obtain ⟨out', H', so, e2⟩ := g2 o ho
          have e2 : ∀ K : K, l_law_joined_3 v (.int .i64 (prX p)) (.int .i64 (prN p)) (.slice none 0 0) (.int .i64 0) H (blkK [10, 27] 6 K) = K .normal [(10, .int .i64 (prX p)), (27, out')] H' := e2
          have hol := outs_len hsz ho
          have hck := q_check o out' H' so.own.rd (by omega)
          by_cases hx : adl o = prX p
          · have hx' : (adl o = prX p) = True := by simp [hx]
            simp only [hx, if_true]
            have key : s_law_joined guardK condL shareL Try.prog CC l_law_joined_0 l_law_joined_1 l_law_joined_2 l_law_joined_3 l_law_joined_4 v H (endK Try.prog [.tmp 2, .tmp 3]) = some (.tuple #[out', .int .i64 0], H') := by
              simp (disch := first | with_reducible rfl | assumption | omega | rfl | (simp only [go_sem]; first | done | omega)) only [go_sem, ↓reduceIte, reduceCtorEq, Nat.reduceEqDiff, Nat.reduceAdd, Nat.reduceSub, Nat.reduceMul, Nat.reduceDiv, Nat.reduceMod, Nat.reduceLeDiff, Nat.reduceLT, Nat.reduceBEq, Int.reduceEq, Int.reduceBEq, Int.reduceBNe, Int.reduceLT, Int.reduceLE, Int.reduceAdd, Int.reduceSub, Int.reduceNeg, Int.reduceToNat, Int.reducePow, Nat.reducePow, Int.reduceMul, Int.reduceDiv, ↓s_law_joined, z1, hlen, hne, i1, c1, enterK_eq hp, w1, e2, enterK_eq hck, hx']
            obtain ⟨H2, h2, h3⟩ := tidy_fr (v := .tuple #[out', .int .i64 0]) so.still
            refine ⟨out', H2, (d_law_joined _ H key).trans (by rw [h2]), ?_, h3⟩
            unfold tidy at h2
            split at h2
            · rename_i hg
              cases h2
              have : out' = .slice none 0 0 := by
                rcases so.own with ⟨_, h⟩ | ⟨_, a, rfl, _⟩ | ⟨b, o', c, xs, rfl, _⟩
                · exact h
                · simp [gr] at hg
                · simp [gr] at hg
              subst this
              rcases so.own with ⟨h, _⟩ | ⟨_, a, h, _⟩ | ⟨b, o', c, xs, h, _⟩
              · rw [h]; exact RdS.nil
              · cases h
              · cases h
            · cases h2
              exact so.own.sl
          · simp only [hx, if_false]
            refine ⟨.slice none 0 0, H, ?_, RdS.nil, Fr.refl H⟩
            apply pure_of _ (d_law_joined _ H) rfl
            rotate_left 2
            · simp (disch := first | with_reducible rfl | assumption | omega | rfl | (simp only [go_sem]; first | done | omega)) only [go_sem, ↓reduceIte, reduceCtorEq, Nat.reduceEqDiff, Nat.reduceAdd, Nat.reduceSub, Nat.reduceMul, Nat.reduceDiv, Nat.reduceMod, Nat.reduceLeDiff, Nat.reduceLT, Nat.reduceBEq, Int.reduceEq, Int.reduceBEq, Int.reduceBNe, Int.reduceLT, Int.reduceLE, Int.reduceAdd, Int.reduceSub, Int.reduceNeg, Int.reduceToNat, Int.reducePow, Nat.reducePow, Int.reduceMul, Int.reduceDiv, ↓s_law_joined, z1, hlen, hne, i1, c1, enterK_eq hp, w1, e2, enterK_eq hck, hx]
              rfl
            · exact so.still

end Go.Proofs.Ytehnchfnhbmkdaa

/-
  The engine, part 31: maps: entries, one by one, and what they stand for.
  Conditions: none. By an AI agent.
-/
namespace Go.Proofs.Ytehnchfnhbmkdaa.Eng
open Go
set_option linter.unusedVariables false
set_option linter.unusedSimpArgs false
set_option linter.unusedSectionVars false

variable {P : Program} {κ α : Type} [DecidableEq κ]

/-- How a key lies. -/
structure KeyK (κ : Type) [DecidableEq κ] where
  kv : κ → Value
  d : TypeDesc
  ok : ∀ a, keyOk d (kv a) = true
  eq : ∀ a b, keq (kv a) (kv b) = decide (a = b)

def kStr : KeyK ByteArray := ⟨.string, .string, fun _ => rfl, fun a b => by show (a == b) = _; rw [bytes_beq]; simp only [decide_eq_decide]; exact ⟨fun h => by cases a; cases b; unfold bl at h; congr 1; exact Array.toList_inj.1 h, fun h => by rw [h]⟩⟩
def kInt (q : IntKind) : KeyK Int := ⟨.int q, .int q, fun _ => by simp [keyOk], fun a b => by simp [keq, Bool.beq_eq_decide_eq]⟩

def lkp : List (κ × α) → κ → Option α
  | [], _ => none
  | p :: r, k => if k = p.1 then some p.2 else lkp r k
def has (es : List (κ × α)) (k : κ) : Bool := (lkp es k).isSome
def repE (es : List (κ × α)) (k : κ) (a : α) : List (κ × α) := es.map fun p => if k = p.1 then (p.1, a) else p
def putE (es : List (κ × α)) (k : κ) (a : α) : List (κ × α) := if has es k then repE es k a else es ++ [(k, a)]
def delE (es : List (κ × α)) (k : κ) : List (κ × α) := es.filter fun p => !decide (k = p.1)

theorem lkp_append (a b : List (κ × α)) (k : κ) : lkp (a ++ b) k = (lkp a k).or (lkp b k) := by
  induction a with
  | nil => rfl
  | cons p r ih =>
    simp only [List.cons_append, lkp]
    split
    · rfl
    · exact ih
theorem lkp_rep (es : List (κ × α)) (k j : κ) (a : α) : lkp (repE es k a) j = if k = j then (lkp es j).map (fun _ => a) else lkp es j := by
  induction es with
  | nil => simp [repE, lkp]
  | cons p r ih =>
    unfold repE at ih ⊢
    simp only [List.map_cons, lkp]
    by_cases h1 : k = p.1
    · rw [if_pos h1]
      simp only
      by_cases h2 : j = p.1
      · rw [if_pos h2, if_pos h2, if_pos (by rw [h1, h2])]; rfl
      · rw [if_neg h2, if_neg h2, ih]
    · rw [if_neg h1]
      by_cases h2 : j = p.1
      · rw [if_pos h2, if_pos h2, if_neg (by rw [h2]; exact h1)]
      · rw [if_neg h2, if_neg h2, ih]
theorem lkp_put (es : List (κ × α)) (k j : κ) (a : α) : lkp (putE es k a) j = if k = j then some a else lkp es j := by
  unfold putE has
  split
  · rename_i h
    rw [lkp_rep]
    by_cases hk : k = j
    · subst hk
      obtain ⟨x, hx⟩ := Option.isSome_iff_exists.1 h
      simp [hx]
    · rw [if_neg hk, if_neg hk]
  · rename_i h
    rw [lkp_append]
    by_cases hk : k = j
    · subst hk
      have : lkp es k = none := by simpa using h
      simp [this, lkp]
    · rw [if_neg hk]
      have : ¬ j = k := fun h => hk h.symm
      simp [lkp, this]
theorem lkp_del (es : List (κ × α)) (k j : κ) : lkp (delE es k) j = if k = j then none else lkp es j := by
  induction es with
  | nil => simp [delE, lkp]
  | cons p r ih =>
    unfold delE at ih ⊢
    by_cases h1 : k = p.1
    · rw [List.filter_cons_of_neg (by simp [h1]), ih]
      by_cases h2 : k = j
      · rw [if_pos h2, if_pos h2]
      · rw [if_neg h2, if_neg h2, lkp, if_neg (by rw [← h1]; exact fun h => h2 h.symm)]
    · rw [List.filter_cons_of_pos (by simp [h1]), lkp, ih, lkp]
      by_cases h2 : j = p.1
      · rw [if_pos h2, if_pos h2, if_neg (by rw [h2]; exact h1)]
      · rw [if_neg h2, if_neg h2]
theorem lkp_mem {es : List (κ × α)} {k : κ} {a : α} (h : lkp es k = some a) : (k, a) ∈ es := by
  induction es with
  | nil => simp [lkp] at h
  | cons p r ih =>
    rw [lkp] at h
    split at h
    · rename_i hk; cases h; subst hk; simp
    · exact List.mem_cons_of_mem _ (ih h)
theorem lkp_key {es : List (κ × α)} {k : κ} : has es k = true ↔ k ∈ es.map (·.1) := by
  unfold has
  induction es with
  | nil => simp [lkp]
  | cons p r ih =>
    simp only [lkp, List.map_cons, List.mem_cons]
    by_cases h : k = p.1
    · simp [h]
    · simp [h, ih]
theorem keys_rep (es : List (κ × α)) (k : κ) (a : α) : (repE es k a).map (·.1) = es.map (·.1) := by
  unfold repE
  rw [List.map_map]
  apply List.map_congr_left
  intro p _
  simp only [Function.comp]
  split <;> rfl
theorem keys_put_nodup {es : List (κ × α)} (h : (es.map (·.1)).Nodup) (k : κ) (a : α) : ((putE es k a).map (·.1)).Nodup := by
  unfold putE
  split
  · rw [keys_rep]; exact h
  · rename_i hk
    rw [List.map_append, List.nodup_append]
    refine ⟨h, by simp, fun x hx y hy => ?_⟩
    simp at hy
    subst hy
    intro he
    subst he
    exact hk (lkp_key.2 hx)
theorem keys_del_nodup {es : List (κ × α)} (h : (es.map (·.1)).Nodup) (k : κ) : ((delE es k).map (·.1)).Nodup := (List.filter_sublist.map _).nodup h

/-- The entries stand for a list. -/
def Ent (R : Value → α → Prop) (kv : κ → Value) : List (Value × Value) → List (κ × α) → Prop
  | [], [] => True
  | e :: ents, p :: es => e.1 = kv p.1 ∧ R e.2 p.2 ∧ Ent R kv ents es
  | _, _ => False

section
variable {R R' : Value → α → Prop} {Kk : KeyK κ} {ents : List (Value × Value)} {es : List (κ × α)}

theorem Ent.mono (h : ∀ v a, R v a → R' v a) {kv : κ → Value} : ∀ {ents : List (Value × Value)} {es : List (κ × α)}, Ent R kv ents es → Ent R' kv ents es
  | [], [], _ => trivial
  | _ :: _, _ :: _, e => ⟨e.1, h _ _ e.2.1, Ent.mono h e.2.2⟩
  | [], _ :: _, e => e
  | _ :: _, [], e => e
/-- Where each value's own relation may be told by its place. -/
theorem Ent.monoM {kv : κ → Value} : ∀ {ents : List (Value × Value)} {es : List (κ × α)}, (∀ e ∈ ents, ∀ a, R e.2 a → R' e.2 a) → Ent R kv ents es → Ent R' kv ents es
  | [], [], _, _ => trivial
  | x :: _, _ :: _, h, e => ⟨e.1, h x (by simp) _ e.2.1, Ent.monoM (fun y hy => h y (by simp [hy])) e.2.2⟩
  | [], _ :: _, _, e => e
  | _ :: _, [], _, e => e
theorem Ent.len {kv : κ → Value} : ∀ {ents : List (Value × Value)} {es : List (κ × α)}, Ent R kv ents es → ents.length = es.length
  | [], [], _ => rfl
  | _ :: _, _ :: _, e => by simp [Ent.len e.2.2]
  | [], _ :: _, e => e.elim
  | _ :: _, [], e => e.elim
theorem Ent.okd : ∀ {ents : List (Value × Value)} {es : List (κ × α)}, Ent R Kk.kv ents es → (ents.all fun p => keyOk Kk.d p.1) = true
  | [], [], _ => rfl
  | _ :: _, _ :: _, e => by rw [List.all_cons, e.1, Kk.ok, Ent.okd e.2.2]; rfl
  | [], _ :: _, e => e.elim
  | _ :: _, [], e => e.elim
theorem Ent.get (k : κ) : ∀ {ents : List (Value × Value)} {es : List (κ × α)}, Ent R Kk.kv ents es → (lkp es k = none → mget ents (Kk.kv k) = none) ∧ (∀ a, lkp es k = some a → ∃ v, mget ents (Kk.kv k) = some v ∧ R v a)
  | [], [], _ => ⟨fun _ => rfl, fun a h => by simp [lkp] at h⟩
  | x :: ents, p :: es, e => by
    obtain ⟨g1, g2⟩ := Ent.get k e.2.2
    have hk : keq (Kk.kv k) x.1 = decide (k = p.1) := by rw [e.1, Kk.eq]
    unfold mget at g1 g2 ⊢
    rw [lkp, List.find?_cons, hk]
    by_cases h : k = p.1
    · simp only [h, decide_true, if_true, Option.map_some]
      exact ⟨fun h => by simp at h, fun a ha => by cases ha; exact ⟨_, rfl, e.2.1⟩⟩
    · simp only [h, decide_false, if_false]
      exact ⟨g1, g2⟩
  | [], _ :: _, e => e.elim
  | _ :: _, [], e => e.elim
theorem Ent.any (k : κ) : ∀ {ents : List (Value × Value)} {es : List (κ × α)}, Ent R Kk.kv ents es → (ents.any fun p => keq (Kk.kv k) p.1) = has es k
  | [], [], _ => rfl
  | x :: ents, p :: es, e => by
    have ih := Ent.any k e.2.2
    unfold has at ih ⊢
    rw [List.any_cons, ih, e.1, Kk.eq, lkp]
    by_cases h : k = p.1 <;> simp [h]
  | [], _ :: _, e => e.elim
  | _ :: _, [], e => e.elim
theorem Ent.rep {k : κ} {v : Value} {a : α} (hv : R v a) : ∀ {ents : List (Value × Value)} {es : List (κ × α)}, Ent R Kk.kv ents es → Ent R Kk.kv (ents.map fun p => if keq (Kk.kv k) p.1 then (p.1, v) else p) (repE es k a)
  | [], [], _ => trivial
  | x :: ents, p :: es, e => by
    have ih := Ent.rep (k := k) hv e.2.2
    unfold repE at ih ⊢
    simp only [List.map_cons]
    rw [e.1, Kk.eq]
    by_cases h : k = p.1
    · simp only [h, decide_true, if_true]
      rw [h] at ih
      exact ⟨rfl, hv, ih⟩
    · simp only [h, decide_false, if_false]
      exact ⟨e.1, e.2.1, ih⟩
  | [], _ :: _, e => e.elim
  | _ :: _, [], e => e.elim
theorem Ent.app {kv : κ → Value} : ∀ {ents e2 : List (Value × Value)} {es s2 : List (κ × α)}, Ent R kv ents es → Ent R kv e2 s2 → Ent R kv (ents ++ e2) (es ++ s2)
  | [], _, [], _, _, h => h
  | _ :: _, _, _ :: _, _, e, h => ⟨e.1, e.2.1, Ent.app e.2.2 h⟩
  | [], _, _ :: _, _, e, _ => e.elim
  | _ :: _, _, [], _, e, _ => e.elim
theorem Ent.put {k : κ} {v : Value} {a : α} (hv : R v a) (e : Ent R Kk.kv ents es) : Ent R Kk.kv (mput ents (Kk.kv k) v) (putE es k a) := by
  unfold mput putE
  rw [e.any k]
  split
  · exact e.rep hv
  · exact e.app ⟨rfl, hv, trivial⟩
theorem Ent.del {k : κ} : ∀ {ents : List (Value × Value)} {es : List (κ × α)}, Ent R Kk.kv ents es → Ent R Kk.kv (mdel ents (Kk.kv k)) (delE es k)
  | [], [], _ => trivial
  | x :: ents, p :: es, e => by
    have ih := Ent.del (k := k) e.2.2
    unfold mdel delE at ih ⊢
    by_cases h : k = p.1
    · rw [List.filter_cons_of_neg (by rw [e.1, Kk.eq]; simp [h]), List.filter_cons_of_neg (by simp [h])]
      exact ih
    · rw [List.filter_cons_of_pos (by rw [e.1, Kk.eq]; simp [h]), List.filter_cons_of_pos (by simp [h])]
      exact ⟨e.1, e.2.1, ih⟩
  | [], _ :: _, e => e.elim
  | _ :: _, [], e => e.elim

/-- A map type. -/
structure MapT (P : Program) (Kk : KeyK κ) (t : TypeId) (z : Value) : Prop where
  ut : ∃ kt et, P.underlying t = some (.map kt et) ∧ keyDesc P kt = some Kk.d ∧ zero? P et = some z

variable {t : TypeId} {z : Value} {H : AHeap} {b : Nat}

theorem look_none (m : MapT P Kk t z) (hf : H.f b = .map ents) (e : Ent R Kk.kv ents es) {k : κ} (h : lkp es k = none) (ok : Bool) : xlookup P t (.map (some b)) (Kk.kv k) ok H = some (if ok then .tuple #[z, .bool false] else z) := by
  obtain ⟨kt, et, h1, h2, h3⟩ := m.ut
  unfold xlookup
  simp only [h1, h2, h3, Kk.ok, if_true, entries, hf, e.okd, Option.map_some, (e.get k).1 h]
theorem look_some (m : MapT P Kk t z) (hf : H.f b = .map ents) (e : Ent R Kk.kv ents es) {k : κ} {a : α} (h : lkp es k = some a) (ok : Bool) : ∃ v, xlookup P t (.map (some b)) (Kk.kv k) ok H = some (if ok then .tuple #[v, .bool true] else v) ∧ R v a := by
  obtain ⟨kt, et, h1, h2, h3⟩ := m.ut
  obtain ⟨v, h4, h5⟩ := (e.get k).2 a h
  refine ⟨v, ?_, h5⟩
  unfold xlookup
  simp only [h1, h2, h3, Kk.ok, if_true, entries, hf, e.okd, Option.map_some, h4]
theorem look_nil (m : MapT P Kk t z) {k : κ} (ok : Bool) : xlookup P t (.map none) (Kk.kv k) ok H = some (if ok then .tuple #[z, .bool false] else z) := by
  obtain ⟨kt, et, h1, h2, h3⟩ := m.ut
  unfold xlookup
  simp only [h1, h2, h3, Kk.ok, if_true, entries, Option.map_some, mget, List.find?_nil, Option.map_none]
theorem upd_map (m : MapT P Kk t z) (hf : H.f b = .map ents) (e : Ent R Kk.kv ents es) (k : κ) (v : Value) : xmapUpdate P t (.map (some b)) (Kk.kv k) v H = some (H.set b (.map (mput ents (Kk.kv k) v))) := by
  obtain ⟨kt, et, h1, h2, h3⟩ := m.ut
  unfold xmapUpdate
  simp only [h1, h2, Kk.ok, if_true, entries, hf, e.okd, Option.map_some]
theorem del_map (m : MapT P Kk t z) (hf : H.f b = .map ents) (e : Ent R Kk.kv ents es) (k : κ) (ts : List TypeId) : xdelete P (t :: ts) (.map (some b)) (Kk.kv k) H = some (.tuple #[], H.set b (.map (mdel ents (Kk.kv k)))) := by
  obtain ⟨kt, et, h1, h2, h3⟩ := m.ut
  unfold xdelete
  simp only [h1, h2, Kk.ok, if_true, entries, hf, e.okd, Option.map_some]
theorem del_nil (m : MapT P Kk t z) (k : κ) (ts : List TypeId) : xdelete P (t :: ts) (.map none) (Kk.kv k) H = some (.tuple #[], H) := by
  obtain ⟨kt, et, h1, h2, h3⟩ := m.ut
  unfold xdelete
  simp only [h1, h2, Kk.ok, if_true]
theorem len_map (m : MapT P Kk t z) (hf : H.f b = .map ents) (e : Ent R Kk.kv ents es) (ts : List TypeId) : xlenM P (t :: ts) (.map (some b)) H = some (.int .i64 (es.length : Int)) := by
  obtain ⟨kt, et, h1, h2, h3⟩ := m.ut
  unfold xlenM
  simp only [h1, hf, e.len]
  rfl
theorem len_mapnil (m : MapT P Kk t z) (ts : List TypeId) : xlenM P (t :: ts) (.map none) H = some (.int .i64 0) := by
  obtain ⟨kt, et, h1, h2, h3⟩ := m.ut
  unfold xlenM
  simp only [h1]
  rfl
theorem make_map (m : MapT P Kk t z) : xmakeMap P t none H = some (.map (some H.n), H.push (.map [])) := by
  obtain ⟨kt, et, h1, h2, h3⟩ := m.ut
  unfold xmakeMap
  simp only [h1]
end

end Go.Proofs.Ytehnchfnhbmkdaa.Eng

/-
  Chapter 48: the map of Join, in plain words.
  Conditions: none. By an AI agent.
-/
set_option maxRecDepth 10000
set_option linter.unusedSimpArgs false
set_option linter.unusedVariables false
namespace Go.Proofs.Ytehnchfnhbmkdaa
open Go Eng

theorem sub_len {α : Type} [DecidableEq α] {a b : List α} (hn : a.Nodup) (hs : ∀ x ∈ a, x ∈ b) : a.length ≤ b.length := hn.length_le_of_subset hs

/-- The map behind some pieces. -/
def esOf (pre : List (List UInt8)) : List (Int × List UInt8) := pre.foldl (fun es p => putE es (prI p) (p.drop 8)) []
theorem esOf_snoc (pre : List (List UInt8)) (p : List UInt8) : esOf (pre ++ [p]) = putE (esOf pre) (prI p) (p.drop 8) := by simp [esOf]
structure Cons (pre : List (List UInt8)) : Prop where
  fwd : ∀ q ∈ pre, lkp (esOf pre) (prI q) = some (q.drop 8)
  bwd : ∀ i s, lkp (esOf pre) i = some s → ∃ q ∈ pre, prI q = i ∧ q.drop 8 = s
  nod : ((esOf pre).map (·.1)).Nodup
theorem Cons.nil : Cons [] := ⟨fun q h => by simp at h, fun i s h => by simp [esOf, lkp] at h, by simp [esOf]⟩
theorem Cons.ag {pre : List (List UInt8)} (c : Cons pre) (p : List UInt8) : pre.all (agP p) = true ↔ (lkp (esOf pre) (prI p) = none ∨ lkp (esOf pre) (prI p) = some (p.drop 8)) := by
  rw [List.all_eq_true]
  constructor
  · intro h
    cases hk : lkp (esOf pre) (prI p) with
    | none => exact .inl rfl
    | some s =>
      obtain ⟨q, hq, h1, rfl⟩ := c.bwd _ _ hk
      have := h q hq
      simp [agP, h1] at this
      exact .inr (by rw [this])
  · intro h q hq
    unfold agP
    by_cases h1 : prI q = prI p
    · have h2 := c.fwd q hq
      rw [h1] at h2
      rw [h2] at h
      rcases h with h | h
      · cases h
      · have := Option.some.inj h
        simp [this]
    · simp [h1]
theorem Cons.snoc {pre : List (List UInt8)} (c : Cons pre) {p : List UInt8} (h : pre.all (agP p) = true) : Cons (pre ++ [p]) := by
  have ha := List.all_eq_true.1 h
  refine ⟨fun q hq => ?_, fun i s hs => ?_, ?_⟩
  · rw [esOf_snoc, lkp_put]
    rcases List.mem_append.1 hq with hq | hq
    · by_cases h1 : prI p = prI q
      · rw [if_pos h1]
        have := ha q hq
        simp [agP, h1.symm] at this
        rw [this]
      · rw [if_neg h1]; exact c.fwd q hq
    · simp at hq; subst hq; simp
  · rw [esOf_snoc, lkp_put] at hs
    split at hs
    · rename_i h1
      cases hs
      exact ⟨p, by simp, h1, rfl⟩
    · obtain ⟨q, h1, h2⟩ := c.bwd i s hs
      exact ⟨q, by simp [h1], h2⟩
  · rw [esOf_snoc]; exact keys_put_nodup c.nod _ _
theorem ok11_cons {x n : Int} : ∀ {t pre : List (List UInt8)}, Cons pre → ok11 x n pre t = true → Cons (pre ++ t) ∧ ∀ p ∈ t, prX p = x ∧ prN p = n
  | [], pre, c, _ => by simpa using c
  | p :: t, pre, c, h => by
    rw [ok11] at h
    simp only [Bool.and_eq_true] at h
    obtain ⟨h1, h2⟩ := h
    unfold cdP at h1
    simp only [Bool.and_eq_true, decide_eq_true_eq] at h1
    obtain ⟨g1, g2⟩ := ok11_cons (c.snoc h1.2.2) h2
    rw [List.append_assoc, List.singleton_append] at g1
    refine ⟨g1, fun q hq => ?_⟩
    rcases List.mem_cons.1 hq with rfl | hq
    · exact ⟨h1.1, h1.2.1⟩
    · exact g2 q hq

theorem fnd_none {ls : List (List UInt8)} {i : Int} : fnd ls i = none ↔ ∀ p ∈ ls, prI p ≠ i := by
  induction ls with
  | nil => simp [fnd]
  | cons p t ih =>
    rw [fnd]
    by_cases h : prI p = i
    · simp [h]
    · simp [h, ih]
theorem fnd_lkp {ls : List (List UInt8)} (c : Cons ls) (i : Int) : fnd ls i = lkp (esOf ls) i := by
  cases h : fnd ls i with
  | none =>
    cases h2 : lkp (esOf ls) i with
    | none => rfl
    | some s =>
      obtain ⟨q, h3, h4, _⟩ := c.bwd i s h2
      exact absurd h4 (fnd_none.1 h q h3)
  | some s =>
    obtain ⟨p, h1, h2, rfl⟩ := fnd_len h
    rw [← h2, c.fwd p h1]

/-- All parts are there. -/
theorem outs_some {ls : List (List UInt8)} : ∀ {n : Nat}, (outs ls n).isSome = true ↔ ∀ k, k < n → (fnd ls (k : Int)).isSome = true
  | 0 => by simp [outs]
  | n + 1 => by
    have ih := outs_some (ls := ls) (n := n)
    rw [outs]
    constructor
    · intro h k hk
      cases h1 : outs ls n with
      | none => rw [h1] at h; simp at h
      | some o =>
        rw [h1] at h
        simp at h
        by_cases hkn : k = n
        · subst hkn; exact h
        · exact ih.1 (by rw [h1]; rfl) k (by omega)
    · intro h
      have h1 := ih.2 fun k hk => h k (by omega)
      obtain ⟨o, ho⟩ := Option.isSome_iff_exists.1 h1
      obtain ⟨s, hs⟩ := Option.isSome_iff_exists.1 (h n (by omega))
      rw [ho, hs]
      rfl

theorem count_le {ls : List (List UInt8)} (c : Cons ls) {n : Nat} (hk : ∀ p ∈ ls, 0 ≤ prI p ∧ prI p < n) : (esOf ls).length ≤ n := by
  have h := sub_len (b := (List.range n).map fun (k : Nat) => (k : Int)) c.nod fun x hx => by
    obtain ⟨q, h1, h2, _⟩ := c.bwd x _ (Option.get_mem (o := lkp (esOf ls) x) (lkp_key.2 hx))
    have := hk q h1
    rw [h2] at this
    exact List.mem_map.2 ⟨x.toNat, List.mem_range.2 (by omega), by omega⟩
  simpa using h
theorem count_ge {ls : List (List UInt8)} (c : Cons ls) {n : Nat} (ho : (outs ls n).isSome = true) : n ≤ (esOf ls).length := by
  have h := sub_len (a := (List.range n).map fun (k : Nat) => (k : Int)) (b := (esOf ls).map (·.1)) (by
    rw [List.Nodup, List.pairwise_map]
    exact List.nodup_range.imp fun h he => h (by omega)) fun x hx => by
    obtain ⟨k, hk, rfl⟩ := List.mem_map.1 hx
    have := outs_some.1 ho k (List.mem_range.1 hk)
    rw [fnd_lkp c] at this
    exact lkp_key.1 this
  simpa using h
theorem count_lt {ls : List (List UInt8)} (c : Cons ls) {n : Nat} (hk : ∀ p ∈ ls, 0 ≤ prI p ∧ prI p < n) : (esOf ls).length < n ↔ outs ls n = none := by
  constructor
  · intro h
    cases ho : outs ls n with
    | none => rfl
    | some o => have := count_ge c (n := n) (by rw [ho]; rfl); omega
  · intro h
    have hne : ¬ ∀ k, k < n → (fnd ls (k : Int)).isSome = true := fun h2 => by
      have := outs_some.2 h2
      rw [h] at this; cases this
    obtain ⟨k, hk1⟩ := Classical.not_forall.1 hne
    have hkn : k < n := by
      rcases Nat.lt_or_ge k n with h | h
      · exact h
      · exact absurd (fun h2 => by omega) hk1
    have hkf : ¬ (fnd ls (k : Int)).isSome = true := fun h2 => hk1 fun _ => h2
    have h := sub_len (b := ((List.range n).erase k).map fun (k : Nat) => (k : Int)) c.nod fun x hx => by
      obtain ⟨q, h1, h2, _⟩ := c.bwd x _ (Option.get_mem (o := lkp (esOf ls) x) (lkp_key.2 hx))
      have := hk q h1
      rw [h2] at this
      refine List.mem_map.2 ⟨x.toNat, (List.mem_erase_of_ne fun he => ?_).2 (List.mem_range.2 (by omega)), by omega⟩
      have hx' : x = (k : Int) := by omega
      rw [fnd_lkp c, ← hx'] at hkf
      exact hkf (lkp_key.2 hx)
    rw [List.length_map, List.length_map, List.length_erase_of_mem (List.mem_range.2 hkn), List.length_range] at h
    omega

end Go.Proofs.Ytehnchfnhbmkdaa

/-
  Chapter 48: Join.
  Conditions: none. By an AI agent.
-/
set_option maxRecDepth 10000
set_option linter.unusedSimpArgs false
set_option linter.unusedVariables false
namespace Go.Proofs.Ytehnchfnhbmkdaa
open Go Eng

theorem q_Equal (a b : Value) (la lb : List UInt8) (H : AHeap) (ra : BR H a la) (rb : BR H b lb) : CC F.bytes_Equal [a, b] H = some (.bool (decide (la = lb)), H) := by
  have s1 := ra.str
  have s2 := rb.str
  apply pure_of _ (d_bytes_Equal _ _ H) rfl
  rotate_left 2
  · simp (disch := first | with_reducible rfl | assumption | omega | rfl | (simp only [go_sem]; first | done | omega)) only [go_sem, ↓reduceIte, reduceCtorEq, Nat.reduceEqDiff, Nat.reduceAdd, Nat.reduceSub, Nat.reduceMul, Nat.reduceDiv, Nat.reduceMod, Nat.reduceLeDiff, Nat.reduceLT, Nat.reduceBEq, Int.reduceEq, Int.reduceBEq, Int.reduceBNe, Int.reduceLT, Int.reduceLE, Int.reduceAdd, Int.reduceSub, Int.reduceNeg, Int.reduceToNat, Int.reducePow, Nat.reducePow, Int.reduceMul, Int.reduceDiv, ↓s_bytes_Equal, s1, s2, bl_mk]
    rfl
  · (repeat (first | exact Fr.refl _ | refine Fr.push ?_ _ | refine Fr.set ?_ _ _ (by intro h; first | omega | (simp only [go_sem] at h; omega))))

/-! ### How many bytes there are -/
def sumS (s : Int) (p : List UInt8) : Int := s + max 0 ((p.length : Int) - 8)
def sumP (ls : List (List UInt8)) : Int := ls.foldl sumS 0
theorem sum_le {M : Nat} : ∀ (ls : List (List UInt8)) (s : Int), (∀ p ∈ ls, p.length ≤ M) → ls.foldl sumS s ≤ s + ls.length * M ∧ s ≤ ls.foldl sumS s
  | [], s, _ => by simp
  | p :: t, s, h => by
    have hp := h p (by simp)
    have := sum_le t (sumS s p) fun q hq => h q (by simp [hq])
    unfold sumS at this
    rw [List.foldl_cons]
    unfold sumS
    simp only [List.length_cons, Int.natCast_add, Int.add_mul]
    omega

theorem l_J0 (ls : List (List UInt8)) (v : Value) (H : AHeap) (hr : Rds H v ls) (hl : ls.length ≤ 1000000) (M : Nat) (hM : M ≤ 5000000) (hsz : ∀ p ∈ ls, p.length ≤ M) : ∀ (t : List (List UInt8)) (i : Nat) (s : Int), ls.drop i = t → 0 ≤ s → s ≤ ((i * M : Nat) : Int) → ∀ K : K,
    l_backup_Join_0 v (.int .i64 s) v (.int .i64 (ls.length : Int)) (.int .i64 (i : Int)) H (blkK [0, 4] 0 K) = K .normal [(0, v), (4, .int .i64 (t.foldl sumS s))] H
  | [], i, s, hx, _, _, K => by
    have h : ls.length ≤ i := List.drop_eq_nil_iff.1 hx
    have hlt : ¬ (i : Int) < (ls.length : Int) := by omega
    rw [r_backup_Join_0]
    simp (disch := first | with_reducible rfl | assumption | omega | rfl | (simp only [go_sem]; first | done | omega)) only [go_sem, ↓reduceIte, reduceCtorEq, Nat.reduceEqDiff, Nat.reduceAdd, Nat.reduceSub, Nat.reduceMul, Nat.reduceDiv, Nat.reduceMod, Nat.reduceLeDiff, Nat.reduceLT, Nat.reduceBEq, Int.reduceEq, Int.reduceBEq, Int.reduceBNe, Int.reduceLT, Int.reduceLE, Int.reduceAdd, Int.reduceSub, Int.reduceNeg, Int.reduceToNat, Int.reducePow, Nat.reducePow, Int.reduceMul, Int.reduceDiv, ↓s_backup_Join_b0, hlt]
  | p :: t, i, s, hx, h0, h1, K => by
    obtain ⟨h, hxa, hx'⟩ := drop_cons hx
    have hlt : (i : Int) < (ls.length : Int) := by omega
    obtain ⟨b1, o1, y1, i1, c1, r1, _⟩ := hr.at h
    rw [hxa] at r1
    have hlp := r1.1.lenS
    have hpl := hsz p (by rw [← hxa]; exact List.getElem_mem _)
    have hmx : 0 ≤ max 0 ((p.length : Int) - 8) ∧ max 0 ((p.length : Int) - 8) ≤ M := by omega
    have hiM : (i + 1) * M = i * M + M := by rw [Nat.add_mul, Nat.one_mul]
    have hiM2 : i * M ≤ 1000000 * 5000000 := Nat.mul_le_mul (by omega) hM
    have ih := l_J0 ls v H hr hl M hM hsz t (i + 1) (sumS s p) hx' (by unfold sumS; omega) (by unfold sumS; omega) K
    have ha : ∀ ox oy, xbin Try.prog .add T.int ox oy (.int .i64 s) (.int .i64 (max 0 ((p.length : Int) - 8))) = some (.int .i64 (sumS s p)) := fun ox oy => add_i64 (by omega)
    rw [r_backup_Join_0]
    simp (disch := first | with_reducible rfl | assumption | omega | rfl | (simp only [go_sem]; first | done | omega)) only [go_sem, ↓reduceIte, reduceCtorEq, Nat.reduceEqDiff, Nat.reduceAdd, Nat.reduceSub, Nat.reduceMul, Nat.reduceDiv, Nat.reduceMod, Nat.reduceLeDiff, Nat.reduceLT, Nat.reduceBEq, Int.reduceEq, Int.reduceBEq, Int.reduceBNe, Int.reduceLT, Int.reduceLE, Int.reduceAdd, Int.reduceSub, Int.reduceNeg, Int.reduceToNat, Int.reducePow, Nat.reducePow, Int.reduceMul, Int.reduceDiv, ↓s_backup_Join_b0, hlt, i1, c1, hlp, ha]
    exact ih

/-! ### Which are pieces -/
theorem len42 {p : List UInt8} {k : Nat} : ((p.drop k).take 2).length ≤ 4 := by simp; omega
theorem l_J1 (ls : List (List UInt8)) (v : Value) (H : AHeap) (hr : Rds H v ls) (hl : ls.length ≤ 1000000) : ∀ (t : List (List UInt8)) (i : Nat), ls.drop i = t →
    (t.all okP = true → ∀ K : K, l_backup_Join_1 v v (.int .i64 (ls.length : Int)) (.int .i64 (i : Int)) H (blkK [0] 2 K) = K .normal [(0, v)] H) ∧
    (t.all okP = false → ∀ K : K, l_backup_Join_1 v v (.int .i64 (ls.length : Int)) (.int .i64 (i : Int)) H (blkK [0] 2 K) = K .ret [(2, .slice none 0 0), (3, .int .i64 12)] H)
  | [], i, hx => by
    have h : ls.length ≤ i := List.drop_eq_nil_iff.1 hx
    have hlt : ¬ (i : Int) < (ls.length : Int) := by omega
    exact ⟨fun _ K => by rw [r_backup_Join_1]; simp (disch := first | with_reducible rfl | assumption | omega | rfl | (simp only [go_sem]; first | done | omega)) only [go_sem, ↓reduceIte, reduceCtorEq, Nat.reduceEqDiff, Nat.reduceAdd, Nat.reduceSub, Nat.reduceMul, Nat.reduceDiv, Nat.reduceMod, Nat.reduceLeDiff, Nat.reduceLT, Nat.reduceBEq, Int.reduceEq, Int.reduceBEq, Int.reduceBNe, Int.reduceLT, Int.reduceLE, Int.reduceAdd, Int.reduceSub, Int.reduceNeg, Int.reduceToNat, Int.reducePow, Nat.reducePow, Int.reduceMul, Int.reduceDiv, ↓s_backup_Join_b1, hlt], fun h => by simp at h⟩
  | p :: t, i, hx => by
    obtain ⟨h, hxa, hx'⟩ := drop_cons hx
    have hlt : (i : Int) < (ls.length : Int) := by omega
    obtain ⟨b1, o1, y1, i1, c1, r1, _⟩ := hr.at h
    rw [hxa] at r1
    have hlp := r1.1.lenS
    obtain ⟨k1, k2⟩ := l_J1 ls v H hr hl t (i + 1) hx'
    rw [List.all_cons]
    by_cases h8 : p.length < 8
    · have h8' : (p.length : Int) < 8 := by omega
      have ho : okP p = false := by unfold okP; simp; omega
      rw [ho]
      refine ⟨fun h2 => by simp at h2, fun h2 K => ?_⟩
      rw [r_backup_Join_1]
      simp (disch := first | with_reducible rfl | assumption | omega | rfl | (simp only [go_sem]; first | done | omega)) only [go_sem, ↓reduceIte, reduceCtorEq, Nat.reduceEqDiff, Nat.reduceAdd, Nat.reduceSub, Nat.reduceMul, Nat.reduceDiv, Nat.reduceMod, Nat.reduceLeDiff, Nat.reduceLT, Nat.reduceBEq, Int.reduceEq, Int.reduceBEq, Int.reduceBNe, Int.reduceLT, Int.reduceLE, Int.reduceAdd, Int.reduceSub, Int.reduceNeg, Int.reduceToNat, Int.reducePow, Nat.reducePow, Int.reduceMul, Int.reduceDiv, ↓s_backup_Join_b1, hlt, i1, c1, hlp, h8']
    · have h8' : ¬ (p.length : Int) < 8 := by omega
      obtain ⟨v4, s4, r4, _⟩ := r1.mid (sz := 1) rfl (i := 4) (j := 6) (q := .i64) (q' := .i64) (by decide) (by omega)
      obtain ⟨v6, s6, r6, _⟩ := r1.mid (sz := 1) rfl (i := 6) (j := 8) (q := .i64) (q' := .i64) (by decide) (by omega)
      have n4 := q_number _ v4 H r4.1 len42
      have n6 := q_number _ v6 H r6.1 len42
      have s4 : slS T.uint8 1 y1 (some (.int .i64 4)) (some (.int .i64 6)) none H = some v4 := s4
      have s6 : slS T.uint8 1 y1 (some (.int .i64 6)) (some (.int .i64 8)) none H = some v6 := s6
      have n4 : CC F.backup_number [v4] H = some (.int .u32 (prI p), H) := n4
      have n6 : CC F.backup_number [v6] H = some (.int .u32 (prN p), H) := n6
      by_cases hlt2 : prN p ≤ prI p
      · have ho : okP p = false := by unfold okP; simp; omega
        rw [ho]
        refine ⟨fun h2 => by simp at h2, fun h2 K => ?_⟩
        rw [r_backup_Join_1]
        simp (disch := first | with_reducible rfl | assumption | omega | rfl | (simp only [go_sem]; first | done | omega)) only [go_sem, ↓reduceIte, reduceCtorEq, Nat.reduceEqDiff, Nat.reduceAdd, Nat.reduceSub, Nat.reduceMul, Nat.reduceDiv, Nat.reduceMod, Nat.reduceLeDiff, Nat.reduceLT, Nat.reduceBEq, Int.reduceEq, Int.reduceBEq, Int.reduceBNe, Int.reduceLT, Int.reduceLE, Int.reduceAdd, Int.reduceSub, Int.reduceNeg, Int.reduceToNat, Int.reducePow, Nat.reducePow, Int.reduceMul, Int.reduceDiv, ↓s_backup_Join_b1, hlt, i1, c1, hlp, h8', s4, enterK_eq n4, s6, enterK_eq n6, hlt2]
      · have ho : okP p = true := by unfold okP; simp; omega
        rw [ho]
        refine ⟨fun h2 K => ?_, fun h2 K => ?_⟩
        · have := k1 (by simpa using h2) K
          rw [r_backup_Join_1]
          simp (disch := first | with_reducible rfl | assumption | omega | rfl | (simp only [go_sem]; first | done | omega)) only [go_sem, ↓reduceIte, reduceCtorEq, Nat.reduceEqDiff, Nat.reduceAdd, Nat.reduceSub, Nat.reduceMul, Nat.reduceDiv, Nat.reduceMod, Nat.reduceLeDiff, Nat.reduceLT, Nat.reduceBEq, Int.reduceEq, Int.reduceBEq, Int.reduceBNe, Int.reduceLT, Int.reduceLE, Int.reduceAdd, Int.reduceSub, Int.reduceNeg, Int.reduceToNat, Int.reducePow, Nat.reducePow, Int.reduceMul, Int.reduceDiv, ↓s_backup_Join_b1, hlt, i1, c1, hlp, h8', s4, enterK_eq n4, s6, enterK_eq n6, hlt2]
          exact this
        · have := k2 (by simpa using h2) K
          rw [r_backup_Join_1]
          simp (disch := first | with_reducible rfl | assumption | omega | rfl | (simp only [go_sem]; first | done | omega)) only [go_sem, ↓reduceIte, reduceCtorEq, Nat.reduceEqDiff, Nat.reduceAdd, Nat.reduceSub, Nat.reduceMul, Nat.reduceDiv, Nat.reduceMod, Nat.reduceLeDiff, Nat.reduceLT, Nat.reduceBEq, Int.reduceEq, Int.reduceBEq, Int.reduceBNe, Int.reduceLT, Int.reduceLE, Int.reduceAdd, Int.reduceSub, Int.reduceNeg, Int.reduceToNat, Int.reducePow, Nat.reducePow, Int.reduceMul, Int.reduceDiv, ↓s_backup_Join_b1, hlt, i1, c1, hlp, h8', s4, enterK_eq n4, s6, enterK_eq n6, hlt2]
          exact this

/-! ### The map -/
theorem mapT : MapT Try.prog (kInt .u32) T.map_uint32_uint8 (.slice none 0 0) := ⟨_, _, Try.underlying86, by kernel_rfl, by kernel_rfl⟩
def RJ (n : Nat) (H : AHeap) (v : Value) (s : List UInt8) : Prop := BR H v s ∧ ∀ b, blockOf v = some b → b < n
theorem RJ.keep {n : Nat} {H H' : AHeap} {S : Nat → Prop} (h : Fr S H H') (hs : ∀ b, S b → n ≤ b) (v : Value) (s : List UInt8) (r : RJ n H v s) : RJ n H' v s := ⟨r.1.keep h fun b hb h2 => by have := r.2 b hb; have := hs b h2; omega, r.2⟩
abbrev EntJ (n : Nat) (H : AHeap) (ents : List (Value × Value)) (es : List (Int × List UInt8)) : Prop := Ent (RJ n H) (kInt .u32).kv ents es

structure MapJ (H0 H : AHeap) (bm : Nat) (es : List (Int × List UInt8)) : Prop where
  still : Still H0 H
  new : H0.n ≤ bm
  lt : bm < H.n
  ent : ∃ ents, H.f bm = .map ents ∧ EntJ H0.n H ents es

theorem MapJ.put {H0 H : AHeap} {bm : Nat} {es : List (Int × List UInt8)} (m : MapJ H0 H bm es) (k : Int) {v : Value} {s : List UInt8} (hv : RJ H0.n H v s) :
    ∃ H', xmapUpdate Try.prog T.map_uint32_uint8 (.map (some bm)) (.int .u32 k) v H = some H' ∧ MapJ H0 H' bm (putE es k s) := by
  obtain ⟨ents, hf, he⟩ := m.ent
  have hfr : Fr (fun x => x = bm) H (H.set bm (.map (mput ents (.int .u32 k) v))) := Fr.set (Fr.refl H) _ _ fun _ => rfl
  refine ⟨_, upd_map mapT hf he k v, m.still.then hfr fun b hb h => by have := m.new; omega, m.new, m.lt, _, set_f_eq, ?_⟩
  exact Ent.mono (fun v' s' r => ⟨r.1.keep hfr fun b hb h2 => by have := r.2 b hb; have := m.new; omega, r.2⟩) (he.put (k := k) hv)

set_option maxHeartbeats 4000000 in
theorem l_J2 (ls : List (List UInt8)) (v : Value) (H0 : AHeap) (hr : Rds H0 v ls) (hl : ls.length ≤ 1000000) (hok : ls.all okP = true) (p0 : List UInt8) (t0 : List (List UInt8)) (hls : ls = p0 :: t0) (bm : Nat) : ∀ (t : List (List UInt8)) (i : Nat) (H : AHeap), ls.drop i = t → Cons (ls.take i) → MapJ H0 H bm (esOf (ls.take i)) →
    (ok11 (prX p0) (prN p0) (ls.take i) t = true → ∃ H', MapJ H0 H' bm (esOf ls) ∧ ∀ K : K, l_backup_Join_2 v (.map (some bm)) v (.int .i64 (ls.length : Int)) (.int .i64 (i : Int)) H (blkK [0, 9] 4 K) = K .normal [(0, v), (9, .map (some bm))] H') ∧
    (ok11 (prX p0) (prN p0) (ls.take i) t = false → ∃ H', Still H0 H' ∧ ∀ K : K, l_backup_Join_2 v (.map (some bm)) v (.int .i64 (ls.length : Int)) (.int .i64 (i : Int)) H (blkK [0, 9] 4 K) = K .ret [(2, .slice none 0 0), (3, .int .i64 11)] H')
  | [], i, H, hx, hc, m => by
    have h : ls.length ≤ i := List.drop_eq_nil_iff.1 hx
    have hlt : ¬ (i : Int) < (ls.length : Int) := by omega
    rw [List.take_of_length_le h] at m
    exact ⟨fun _ => ⟨H, m, fun K => by rw [r_backup_Join_2]; simp (disch := first | with_reducible rfl | assumption | omega | rfl | (simp only [go_sem]; first | done | omega)) only [go_sem, ↓reduceIte, reduceCtorEq, Nat.reduceEqDiff, Nat.reduceAdd, Nat.reduceSub, Nat.reduceMul, Nat.reduceDiv, Nat.reduceMod, Nat.reduceLeDiff, Nat.reduceLT, Nat.reduceBEq, Int.reduceEq, Int.reduceBEq, Int.reduceBNe, Int.reduceLT, Int.reduceLE, Int.reduceAdd, Int.reduceSub, Int.reduceNeg, Int.reduceToNat, Int.reducePow, Nat.reducePow, Int.reduceMul, Int.reduceDiv, ↓s_backup_Join_b2, hlt]⟩, fun h => by simp [ok11] at h⟩
  | p :: t, i, H, hx, hc, m => by
    obtain ⟨h, hxa, hx'⟩ := drop_cons hx
    have hlt : (i : Int) < (ls.length : Int) := by omega
    have hr1 := hr.still m.still
    obtain ⟨b1, o1, y1, i1, c1, r1, _⟩ := hr1.at h
    rw [hxa] at r1
    have hpos : 0 < ls.length := by omega
    obtain ⟨b0, o0, y0, i0, c0, r0, _⟩ := hr1.at hpos
    have hp0 : ls[0] = p0 := by simp [hls]
    rw [hp0] at r0
    have i0 : ixS 1 v (.int .i64 0) = some (.pointer (some ⟨b0, o0, none⟩)) := i0
    have hop : okP p = true := List.all_eq_true.1 hok p (by rw [← hxa]; exact List.getElem_mem _)
    have hop0 : okP p0 = true := List.all_eq_true.1 hok p0 (by rw [hls]; simp)
    have l8 := (okP_len hop).1
    have l80 := (okP_len hop0).1
    obtain ⟨v4, s4, r4, _⟩ := r1.mid (sz := 1) rfl (i := 4) (j := 6) (q := .i64) (q' := .i64) (by decide) (by omega)
    obtain ⟨v6, s6, r6, _⟩ := r1.mid (sz := 1) rfl (i := 6) (j := 8) (q := .i64) (q' := .i64) (by decide) (by omega)
    obtain ⟨vx, sx, rx, _⟩ := r1.to (sz := 1) rfl (j := 4) (q := .i64) (by omega)
    obtain ⟨v8, s8, r8, b8⟩ := r1.from (sz := 1) rfl (i := 8) (q := .i64) (by omega)
    obtain ⟨w6, z6, u6, _⟩ := r0.mid (sz := 1) rfl (i := 6) (j := 8) (q := .i64) (q' := .i64) (by decide) (by omega)
    obtain ⟨wx, zx, ux, _⟩ := r0.to (sz := 1) rfl (j := 4) (q := .i64) (by omega)
    have n4 : CC F.backup_number [v4] H = some (.int .u32 (prI p), H) := q_number _ v4 H r4.1 len42
    have n6 : CC F.backup_number [v6] H = some (.int .u32 (prN p), H) := q_number _ v6 H r6.1 len42
    have nx : CC F.backup_number [vx] H = some (.int .u32 (prX p), H) := q_number _ vx H rx.1 (by simp; omega)
    have m6 : CC F.backup_number [w6] H = some (.int .u32 (prN p0), H) := q_number _ w6 H u6.1 len42
    have mx : CC F.backup_number [wx] H = some (.int .u32 (prX p0), H) := q_number _ wx H ux.1 (by simp; omega)
    have s4 : slS T.uint8 1 y1 (some (.int .i64 4)) (some (.int .i64 6)) none H = some v4 := s4
    have s6 : slS T.uint8 1 y1 (some (.int .i64 6)) (some (.int .i64 8)) none H = some v6 := s6
    have sx : slS T.uint8 1 y1 none (some (.int .i64 4)) none H = some vx := sx
    have s8 : slS T.uint8 1 y1 (some (.int .i64 8)) none none H = some v8 := s8
    have z6 : slS T.uint8 1 y0 (some (.int .i64 6)) (some (.int .i64 8)) none H = some w6 := z6
    have zx : slS T.uint8 1 y0 none (some (.int .i64 4)) none H = some wx := zx
    have hr0 := (hr.at h)
    have hb8 : ∀ b, blockOf v8 = some b → b < H0.n := fun b hb => by
      obtain ⟨b1', o1', y1', i1', c1', r1', hb1', hbv'⟩ := hr0
      rw [i1] at i1'
      cases i1'
      rw [m.still.f hb1' (fun h => h)] at c1
      rw [c1] at c1'
      cases c1'
      rw [b8] at hb
      rcases r1'.2 with h' | ⟨b', o, n', code, h', _, _, h3⟩
      · rw [h'] at hb; cases hb
      · rw [h'] at hb; cases hb; exact h3
    obtain ⟨ents, hf, he⟩ := m.ent
    have htk : ls.take (i + 1) = ls.take i ++ [p] := by rw [← hxa]; exact List.take_succ_eq_append_getElem h
    rw [ok11]
    have hag := hc.ag p
    by_cases e1 : prX p = prX p0
    · have e1' : (prX p = prX p0) = True := by simp [e1]
      by_cases e2 : prN p = prN p0
      · have e2' : (prN p = prN p0) = True := by simp [e2]
        -- what the next rounds do
        have next : (ls.take i).all (agP p) = true → ∃ H1, xmapUpdate Try.prog T.map_uint32_uint8 (.map (some bm)) (.int .u32 (prI p)) v8 H = some H1 ∧ cdP (ls.take i) (prX p0) (prN p0) p = true ∧
            (ok11 (prX p0) (prN p0) (ls.take i ++ [p]) t = true → ∃ H', MapJ H0 H' bm (esOf ls) ∧ ∀ K : Eng.K, l_backup_Join_2 v (.map (some bm)) v (.int .i64 (ls.length : Int)) (.int .i64 ((i + 1 : Nat) : Int)) H1 (blkK [0, 9] 4 K) = K .normal [(0, v), (9, .map (some bm))] H') ∧
            (ok11 (prX p0) (prN p0) (ls.take i ++ [p]) t = false → ∃ H', Still H0 H' ∧ ∀ K : Eng.K, l_backup_Join_2 v (.map (some bm)) v (.int .i64 (ls.length : Int)) (.int .i64 ((i + 1 : Nat) : Int)) H1 (blkK [0, 9] 4 K) = K .ret [(2, .slice none 0 0), (3, .int .i64 11)] H') := fun ha => by
          obtain ⟨H1, u1, m1⟩ := m.put (prI p) (v := v8) ⟨r8, hb8⟩
          rw [← esOf_snoc, ← htk] at m1
          have ih := l_J2 ls v H0 hr hl hok p0 t0 hls bm t (i + 1) H1 hx' (by rw [htk]; exact hc.snoc ha) m1
          rw [htk] at ih
          exact ⟨H1, u1, by simp [cdP, e1, e2, ha], ih⟩
        cases hk : lkp (esOf (ls.take i)) (prI p) with
        | none =>
          have ha := hag.2 (.inl hk)
          obtain ⟨H1, u1, hcd, g1, g2⟩ := next ha
          have hlook : xlookup Try.prog T.map_uint32_uint8 (.map (some bm)) (.int .u32 (prI p)) true H = some (.tuple #[.slice none 0 0, .bool false]) := look_none mapT hf he hk true
          rw [hcd, Bool.true_and]
          refine ⟨fun h2 => ?_, fun h2 => ?_⟩
          · obtain ⟨H', m', e'⟩ := g1 h2
            refine ⟨H', m', fun K => ?_⟩
            have := e' K
            rw [r_backup_Join_2]
            simp (disch := first | with_reducible rfl | assumption | omega | rfl | (simp only [go_sem]; first | done | omega)) only [go_sem, ↓reduceIte, reduceCtorEq, Nat.reduceEqDiff, Nat.reduceAdd, Nat.reduceSub, Nat.reduceMul, Nat.reduceDiv, Nat.reduceMod, Nat.reduceLeDiff, Nat.reduceLT, Nat.reduceBEq, Int.reduceEq, Int.reduceBEq, Int.reduceBNe, Int.reduceLT, Int.reduceLE, Int.reduceAdd, Int.reduceSub, Int.reduceNeg, Int.reduceToNat, Int.reducePow, Nat.reducePow, Int.reduceMul, Int.reduceDiv, ↓s_backup_Join_b2, hlt, i1, c1, s4, enterK_eq n4, hlook, sx, enterK_eq nx, i0, c0, zx, enterK_eq mx, s6, enterK_eq n6, z6, enterK_eq m6, e1', e2', s8, u1]
            exact this
          · obtain ⟨H', m', e'⟩ := g2 h2
            refine ⟨H', m', fun K => ?_⟩
            have := e' K
            rw [r_backup_Join_2]
            simp (disch := first | with_reducible rfl | assumption | omega | rfl | (simp only [go_sem]; first | done | omega)) only [go_sem, ↓reduceIte, reduceCtorEq, Nat.reduceEqDiff, Nat.reduceAdd, Nat.reduceSub, Nat.reduceMul, Nat.reduceDiv, Nat.reduceMod, Nat.reduceLeDiff, Nat.reduceLT, Nat.reduceBEq, Int.reduceEq, Int.reduceBEq, Int.reduceBNe, Int.reduceLT, Int.reduceLE, Int.reduceAdd, Int.reduceSub, Int.reduceNeg, Int.reduceToNat, Int.reducePow, Nat.reducePow, Int.reduceMul, Int.reduceDiv, ↓s_backup_Join_b2, hlt, i1, c1, s4, enterK_eq n4, hlook, sx, enterK_eq nx, i0, c0, zx, enterK_eq mx, s6, enterK_eq n6, z6, enterK_eq m6, e1', e2', s8, u1]
            exact this
        | some s =>
          obtain ⟨vo, hlook, ro⟩ := look_some mapT hf he hk true
          have hlook : xlookup Try.prog T.map_uint32_uint8 (.map (some bm)) (.int .u32 (prI p)) true H = some (.tuple #[vo, .bool true]) := hlook
          have heq := q_Equal vo v8 s (p.drop 8) H ro.1 r8
          by_cases hs : s = p.drop 8
          · have ha := hag.2 (.inr (by rw [hk, hs]))
            obtain ⟨H1, u1, hcd, g1, g2⟩ := next ha
            rw [decide_eq_true hs] at heq
            rw [hcd, Bool.true_and]
            refine ⟨fun h2 => ?_, fun h2 => ?_⟩
            · obtain ⟨H', m', e'⟩ := g1 h2
              refine ⟨H', m', fun K => ?_⟩
              have := e' K
              rw [r_backup_Join_2]
              simp (disch := first | with_reducible rfl | assumption | omega | rfl | (simp only [go_sem]; first | done | omega)) only [go_sem, ↓reduceIte, reduceCtorEq, Nat.reduceEqDiff, Nat.reduceAdd, Nat.reduceSub, Nat.reduceMul, Nat.reduceDiv, Nat.reduceMod, Nat.reduceLeDiff, Nat.reduceLT, Nat.reduceBEq, Int.reduceEq, Int.reduceBEq, Int.reduceBNe, Int.reduceLT, Int.reduceLE, Int.reduceAdd, Int.reduceSub, Int.reduceNeg, Int.reduceToNat, Int.reducePow, Nat.reducePow, Int.reduceMul, Int.reduceDiv, ↓s_backup_Join_b2, hlt, i1, c1, s4, enterK_eq n4, hlook, sx, enterK_eq nx, i0, c0, zx, enterK_eq mx, s6, enterK_eq n6, z6, enterK_eq m6, e1', e2', s8, enterK_eq heq, u1]
              exact this
            · obtain ⟨H', m', e'⟩ := g2 h2
              refine ⟨H', m', fun K => ?_⟩
              have := e' K
              rw [r_backup_Join_2]
              simp (disch := first | with_reducible rfl | assumption | omega | rfl | (simp only [go_sem]; first | done | omega)) only [go_sem, ↓reduceIte, reduceCtorEq, Nat.reduceEqDiff, Nat.reduceAdd, Nat.reduceSub, Nat.reduceMul, Nat.reduceDiv, Nat.reduceMod, Nat.reduceLeDiff, Nat.reduceLT, Nat.reduceBEq, Int.reduceEq, Int.reduceBEq, Int.reduceBNe, Int.reduceLT, Int.reduceLE, Int.reduceAdd, Int.reduceSub, Int.reduceNeg, Int.reduceToNat, Int.reducePow, Nat.reducePow, Int.reduceMul, Int.reduceDiv, ↓s_backup_Join_b2, hlt, i1, c1, s4, enterK_eq n4, hlook, sx, enterK_eq nx, i0, c0, zx, enterK_eq mx, s6, enterK_eq n6, z6, enterK_eq m6, e1', e2', s8, enterK_eq heq, u1]
              exact this
          · rw [decide_eq_false hs] at heq
            have hna : (ls.take i).all (agP p) = false := by
              cases hq : (ls.take i).all (agP p) with
              | false => rfl
              | true =>
                rcases hag.1 hq with h3 | h3
                · rw [hk] at h3; cases h3
                · rw [hk] at h3; cases h3; exact absurd rfl hs
            have ec : cdP (ls.take i) (prX p0) (prN p0) p = false := by simp [cdP, hna]
            rw [ec]
            refine ⟨fun h2 => by simp at h2, fun _ => ⟨H, m.still, fun K => ?_⟩⟩
            rw [r_backup_Join_2]
            simp (disch := first | with_reducible rfl | assumption | omega | rfl | (simp only [go_sem]; first | done | omega)) only [go_sem, ↓reduceIte, reduceCtorEq, Nat.reduceEqDiff, Nat.reduceAdd, Nat.reduceSub, Nat.reduceMul, Nat.reduceDiv, Nat.reduceMod, Nat.reduceLeDiff, Nat.reduceLT, Nat.reduceBEq, Int.reduceEq, Int.reduceBEq, Int.reduceBNe, Int.reduceLT, Int.reduceLE, Int.reduceAdd, Int.reduceSub, Int.reduceNeg, Int.reduceToNat, Int.reducePow, Nat.reducePow, Int.reduceMul, Int.reduceDiv, ↓s_backup_Join_b2, hlt, i1, c1, s4, enterK_eq n4, hlook, sx, enterK_eq nx, i0, c0, zx, enterK_eq mx, s6, enterK_eq n6, z6, enterK_eq m6, e1', e2', s8, enterK_eq heq]
      · have ec : cdP (ls.take i) (prX p0) (prN p0) p = false := by simp [cdP, e2]
        rw [ec]
        refine ⟨fun h2 => by simp at h2, fun _ => ⟨H, m.still, fun K => ?_⟩⟩
        obtain ⟨w, iw, hlook⟩ : ∃ w iw, xlookup Try.prog T.map_uint32_uint8 (.map (some bm)) (.int .u32 (prI p)) true H = some (.tuple #[w, .bool iw]) := by
          cases hk : lkp (esOf (ls.take i)) (prI p) with
          | none => exact ⟨_, _, look_none mapT hf he hk true⟩
          | some s => obtain ⟨vo, h1, _⟩ := look_some mapT hf he hk true; exact ⟨_, _, h1⟩
        rw [r_backup_Join_2]
        simp (disch := first | with_reducible rfl | assumption | omega | rfl | (simp only [go_sem]; first | done | omega)) only [go_sem, ↓reduceIte, reduceCtorEq, Nat.reduceEqDiff, Nat.reduceAdd, Nat.reduceSub, Nat.reduceMul, Nat.reduceDiv, Nat.reduceMod, Nat.reduceLeDiff, Nat.reduceLT, Nat.reduceBEq, Int.reduceEq, Int.reduceBEq, Int.reduceBNe, Int.reduceLT, Int.reduceLE, Int.reduceAdd, Int.reduceSub, Int.reduceNeg, Int.reduceToNat, Int.reducePow, Nat.reducePow, Int.reduceMul, Int.reduceDiv, ↓s_backup_Join_b2, hlt, i1, c1, s4, enterK_eq n4, hlook, sx, enterK_eq nx, i0, c0, zx, enterK_eq mx, s6, enterK_eq n6, z6, enterK_eq m6, e1', e2]
    · have ec : cdP (ls.take i) (prX p0) (prN p0) p = false := by simp [cdP, e1]
      rw [ec]
      refine ⟨fun h2 => by simp at h2, fun _ => ⟨H, m.still, fun K => ?_⟩⟩
      obtain ⟨w, iw, hlook⟩ : ∃ w iw, xlookup Try.prog T.map_uint32_uint8 (.map (some bm)) (.int .u32 (prI p)) true H = some (.tuple #[w, .bool iw]) := by
        cases hk : lkp (esOf (ls.take i)) (prI p) with
        | none => exact ⟨_, _, look_none mapT hf he hk true⟩
        | some s => obtain ⟨vo, h1, _⟩ := look_some mapT hf he hk true; exact ⟨_, _, h1⟩
      rw [r_backup_Join_2]
      simp (disch := first | with_reducible rfl | assumption | omega | rfl | (simp only [go_sem]; first | done | omega)) only [go_sem, ↓reduceIte, reduceCtorEq, Nat.reduceEqDiff, Nat.reduceAdd, Nat.reduceSub, Nat.reduceMul, Nat.reduceDiv, Nat.reduceMod, Nat.reduceLeDiff, Nat.reduceLT, Nat.reduceBEq, Int.reduceEq, Int.reduceBEq, Int.reduceBNe, Int.reduceLT, Int.reduceLE, Int.reduceAdd, Int.reduceSub, Int.reduceNeg, Int.reduceToNat, Int.reducePow, Nat.reducePow, Int.reduceMul, Int.reduceDiv, ↓s_backup_Join_b2, hlt, i1, c1, s4, enterK_eq n4, hlook, sx, enterK_eq nx, i0, c0, zx, enterK_eq mx, e1]

end Go.Proofs.Ytehnchfnhbmkdaa

/-
  Chapter 48: Join, whole.
  Conditions: none. By an AI agent.
-/
set_option maxRecDepth 10000
set_option linter.unusedSimpArgs false
set_option linter.unusedVariables false
namespace Go.Proofs.Ytehnchfnhbmkdaa
open Go Eng

theorem l_J3 (ls : List (List UInt8)) (v : Value) (H1 : AHeap) (bm : Nat) (hbm : bm < H1.n) (n0 : Nat) (ents : List (Value × Value)) (hf : H1.f bm = .map ents) (he : EntJ n0 H1 ents (esOf ls)) (hc : Cons ls) (hsz : ∀ p ∈ ls, p.length ≤ 5000000) (n : Nat) (hn : n ≤ 65536) (oo : List UInt8) (hoo : outs ls n = some oo) : ∀ (m k : Nat) (H : AHeap) (out : Value) (o : List UInt8), k + m = n → outs ls k = some o → Since H1 H out o →
    ∃ out' H', Since H1 H' out' oo ∧ ∀ K : K, l_backup_Join_3 v (.map (some bm)) out (.int .i64 (n : Int)) (.int .i64 (k : Int)) H (blkK [0, 15] 6 K) = K .normal [(0, v), (15, out')] H'
  | 0, k, H, out, o, hkm, ho, so => by
    obtain rfl : k = n := by omega
    have hlt : ¬ (k : Int) < (k : Int) := by omega
    rw [ho] at hoo; cases hoo
    refine ⟨out, H, so, fun K => ?_⟩
    rw [r_backup_Join_3]
    simp (disch := first | with_reducible rfl | assumption | omega | rfl | (simp only [go_sem]; first | done | omega)) only [go_sem, ↓reduceIte, reduceCtorEq, Nat.reduceEqDiff, Nat.reduceAdd, Nat.reduceSub, Nat.reduceMul, Nat.reduceDiv, Nat.reduceMod, Nat.reduceLeDiff, Nat.reduceLT, Nat.reduceBEq, Int.reduceEq, Int.reduceBEq, Int.reduceBNe, Int.reduceLT, Int.reduceLE, Int.reduceAdd, Int.reduceSub, Int.reduceNeg, Int.reduceToNat, Int.reducePow, Nat.reducePow, Int.reduceMul, Int.reduceDiv, ↓s_backup_Join_b3, hlt]
  | m + 1, k, H, out, o, hkm, ho, so => by
    have hlt : (k : Int) < (n : Int) := by omega
    have hol := outs_len hsz ho
    have hsome := outs_some.1 (by rw [hoo]; rfl : (outs ls n).isSome = true) k (by omega)
    obtain ⟨s, hs⟩ := Option.isSome_iff_exists.1 hsome
    have hk : lkp (esOf ls) (k : Int) = some s := by rw [← fnd_lkp hc]; exact hs
    have hfH : H.f bm = .map ents := by rw [so.still.f hbm (fun h => h)]; exact hf
    have heH : EntJ n0 H ents (esOf ls) := Ent.mono (fun v s r => ⟨r.1.still so.still, r.2⟩) he
    obtain ⟨w, hlook, rw_⟩ := look_some mapT hfH heH hk false
    have hlook : xlookup Try.prog T.map_uint32_uint8 (.map (some bm)) (.int .u32 (k : Int)) false H = some w := hlook
    obtain ⟨p, hp, _, hps⟩ := fnd_len hs
    have hsl : s.length ≤ 5000000 := by have := hsz p hp; rw [hps]; simp; omega
    obtain ⟨out1, H2, a1, so1⟩ := so.app s (rw_.1.1.src (sz := 1) rfl) (by omega)
    have hk1 : outs ls (k + 1) = some (o ++ s) := by rw [outs, ho, hs]; rfl
    obtain ⟨out', H', so', e2⟩ := l_J3 ls v H1 bm hbm n0 ents hf he hc hsz n hn oo hoo m (k + 1) H2 out1 (o ++ s) (by omega) hk1 so1
    refine ⟨out', H', so', fun K => ?_⟩
    have := e2 K
    have hw : IntKind.wrap .u32 (k : Int) = (k : Int) := wrap_u32 ⟨by omega, by omega⟩
    rw [r_backup_Join_3]
    simp (disch := first | with_reducible rfl | assumption | omega | rfl | (simp only [go_sem]; first | done | omega)) only [go_sem, ↓reduceIte, reduceCtorEq, Nat.reduceEqDiff, Nat.reduceAdd, Nat.reduceSub, Nat.reduceMul, Nat.reduceDiv, Nat.reduceMod, Nat.reduceLeDiff, Nat.reduceLT, Nat.reduceBEq, Int.reduceEq, Int.reduceBEq, Int.reduceBNe, Int.reduceLT, Int.reduceLE, Int.reduceAdd, Int.reduceSub, Int.reduceNeg, Int.reduceToNat, Int.reducePow, Nat.reducePow, Int.reduceMul, Int.reduceDiv, ↓s_backup_Join_b3, hlt, x_int_uint32, hw, hlook, a1]
    exact this

/-- What a call hands back: bytes and a number. -/
theorem keep_pair {H H' : AHeap} {out : Value} {o : List UInt8} {n : Int} {H0 : AHeap} (hs : Still H H') (so : Since H0 H' out o) :
    ∃ H2, tidy H (.tuple #[out, .int .i64 n], H') = (.tuple #[out, .int .i64 n], H2) ∧ BR H2 out o ∧ Still H H2 := by
  obtain ⟨H2, h2, h3⟩ := tidy_fr (v := .tuple #[out, .int .i64 n]) hs
  refine ⟨H2, h2, ?_, h3⟩
  unfold tidy at h2
  split at h2
  · rename_i hg
    cases h2
    have : out = .slice none 0 0 := by
      rcases so.own with ⟨_, h⟩ | ⟨_, a, rfl, _⟩ | ⟨b, o', c, xs, rfl, _⟩
      · exact h
      · simp [gr] at hg
      · simp [gr] at hg
    subst this
    rcases so.own with ⟨h, _⟩ | ⟨_, a, h, _⟩ | ⟨b, o', c, xs, h, _⟩
    · rw [h]; exact RdS.nil
    · cases h
    · cases h
  · cases h2
    exact so.own.sl

theorem q_Join_long (v : Value) (ls : List (List UInt8)) (H : AHeap) (hlen : lenS v = some (.int .i64 (ls.length : Int))) (hl : 65535 < ls.length) : CC F.backup_Join [v] H = some (.tuple #[.slice none 0 0, .int .i64 5], H) := by
  have h1 : 65535 < (ls.length : Int) := by omega
  apply pure_of _ (d_backup_Join _ H) rfl
  rotate_left 2
  · simp (disch := first | with_reducible rfl | assumption | omega | rfl | (simp only [go_sem]; first | done | omega)) only [go_sem, ↓reduceIte, reduceCtorEq, Nat.reduceEqDiff, Nat.reduceAdd, Nat.reduceSub, Nat.reduceMul, Nat.reduceDiv, Nat.reduceMod, Nat.reduceLeDiff, Nat.reduceLT, Nat.reduceBEq, Int.reduceEq, Int.reduceBEq, Int.reduceBNe, Int.reduceLT, Int.reduceLE, Int.reduceAdd, Int.reduceSub, Int.reduceNeg, Int.reduceToNat, Int.reducePow, Nat.reducePow, Int.reduceMul, Int.reduceDiv, ↓s_backup_Join, hlen, h1]
    rfl
  · (repeat (first | exact Fr.refl _ | refine Fr.push ?_ _ | refine Fr.set ?_ _ _ (by intro h; first | omega | (simp only [go_sem] at h; omega))))

theorem q_Join (ls : List (List UInt8)) (v : Value) (H : AHeap) (hr : Rds H v ls) (hl : ls.length ≤ 65535) (hsz : ∀ p ∈ ls, p.length ≤ 5000000) (hsum : sumP ls ≤ 4194304) :
    ∃ v' H', CC F.backup_Join [v] H = some (.tuple #[v', .int .i64 (jn ls).2], H') ∧ BR H' v' (jn ls).1 ∧ Still H H' := by
  have hlen := hr.lenS
  have hl1 : ¬ 65535 < (ls.length : Int) := by omega
  have hs1 : ¬ 4194304 < sumP ls := by omega
  have z0 : ∀ K : K, l_backup_Join_0 v (.int .i64 0) v (.int .i64 (ls.length : Int)) (.int .i64 0) H (blkK [0, 4] 0 K) = K .normal [(0, v), (4, .int .i64 (sumP ls))] H := l_J0 ls v H hr (by omega) 5000000 (Nat.le_refl _) hsz ls 0 0 (by simp) (by decide) (by simp)
  obtain ⟨z1, z2⟩ := l_J1 ls v H hr (by omega) ls 0 (by simp)
  unfold jn
  cases hok : ls.all okP with
  | false =>
    have z2 : ∀ K : K, l_backup_Join_1 v v (.int .i64 (ls.length : Int)) (.int .i64 0) H (blkK [0] 2 K) = K .ret [(2, .slice none 0 0), (3, .int .i64 12)] H := z2 hok
    refine ⟨.slice none 0 0, H, ?_, RdS.nil, Fr.refl H⟩
    apply pure_of _ (d_backup_Join _ H) rfl
    rotate_left 2
    · simp (disch := first | with_reducible rfl | assumption | omega | rfl | (simp only [go_sem]; first | done | omega)) only [go_sem, ↓reduceIte, reduceCtorEq, Nat.reduceEqDiff, Nat.reduceAdd, Nat.reduceSub, Nat.reduceMul, Nat.reduceDiv, Nat.reduceMod, Nat.reduceLeDiff, Nat.reduceLT, Nat.reduceBEq, Int.reduceEq, Int.reduceBEq, Int.reduceBNe, Int.reduceLT, Int.reduceLE, Int.reduceAdd, Int.reduceSub, Int.reduceNeg, Int.reduceToNat, Int.reducePow, Nat.reducePow, Int.reduceMul, Int.reduceDiv, ↓s_backup_Join, hlen, hl1, z0, hs1, z2]
      rfl
    · (repeat (first | exact Fr.refl _ | refine Fr.push ?_ _ | refine Fr.set ?_ _ _ (by intro h; first | omega | (simp only [go_sem] at h; omega))))
  | true =>
    have z1 : ∀ K : K, l_backup_Join_1 v v (.int .i64 (ls.length : Int)) (.int .i64 0) H (blkK [0] 2 K) = K .normal [(0, v)] H := z1 hok
    simp only [if_true]
    cases hls : ls with
    | nil =>
      rw [hls] at hlen z0 z1 hl1 hs1
      have hlen : lenS v = some (.int .i64 0) := hlen
      have z0 : ∀ K : K, l_backup_Join_0 v (.int .i64 0) v (.int .i64 0) (.int .i64 0) H (blkK [0, 4] 0 K) = K .normal [(0, v), (4, .int .i64 0)] H := z0
      have z1 : ∀ K : K, l_backup_Join_1 v v (.int .i64 0) (.int .i64 0) H (blkK [0] 2 K) = K .normal [(0, v)] H := z1
      refine ⟨.slice none 0 0, H, ?_, RdS.nil, Fr.refl H⟩
      apply pure_of _ (d_backup_Join _ H) rfl
      rotate_left 2
      · simp (disch := first | with_reducible rfl | assumption | omega | rfl | (simp only [go_sem]; first | done | omega)) only [go_sem, ↓reduceIte, reduceCtorEq, Nat.reduceEqDiff, Nat.reduceAdd, Nat.reduceSub, Nat.reduceMul, Nat.reduceDiv, Nat.reduceMod, Nat.reduceLeDiff, Nat.reduceLT, Nat.reduceBEq, Int.reduceEq, Int.reduceBEq, Int.reduceBNe, Int.reduceLT, Int.reduceLE, Int.reduceAdd, Int.reduceSub, Int.reduceNeg, Int.reduceToNat, Int.reducePow, Nat.reducePow, Int.reduceMul, Int.reduceDiv, ↓s_backup_Join, hlen, z0, z1]
        rfl
      · (repeat (first | exact Fr.refl _ | refine Fr.push ?_ _ | refine Fr.set ?_ _ _ (by intro h; first | omega | (simp only [go_sem] at h; omega))))
    | cons p t =>
      simp only
      rw [← hls]
      have hpos : 0 < ls.length := by rw [hls]; simp
      have hne : ¬ (ls.length : Int) = 0 := by omega
      have hop : okP p = true := List.all_eq_true.1 hok p (by rw [hls]; simp)
      have l80 := (okP_len hop).1
      -- the map
      obtain ⟨Hm, hHm⟩ : ∃ Hm, H.push (.map []) = Hm := ⟨_, rfl⟩
      have sm : Still H Hm := by rw [← hHm]; exact (Fr.refl H).push _
      have nm : Hm.n = H.n + 1 := by rw [← hHm]; rfl
      have fm : Hm.f H.n = .map [] := by rw [← hHm]; exact push_f_eq rfl
      have hmk := make_map (H := H) mapT
      rw [hHm] at hmk
      have mj : MapJ H Hm H.n (esOf (ls.take 0)) := ⟨sm, Nat.le_refl _, by omega, [], fm, by rw [List.take_zero]; trivial⟩
      obtain ⟨w1, w2⟩ := l_J2 ls v H hr (by omega) hok p t hls H.n ls 0 Hm (by simp) (by rw [List.take_zero]; exact Cons.nil) mj
      rw [List.take_zero] at w1 w2
      cases h11 : ok11 (prX p) (prN p) [] ls with
      | false =>
        obtain ⟨H2, s2, w2⟩ := w2 h11
        have w2 : ∀ K : K, l_backup_Join_2 v (.map (some H.n)) v (.int .i64 (ls.length : Int)) (.int .i64 0) Hm (blkK [0, 9] 4 K) = K .ret [(2, .slice none 0 0), (3, .int .i64 11)] H2 := w2
        refine ⟨.slice none 0 0, H, ?_, RdS.nil, Fr.refl H⟩
        apply pure_of _ (d_backup_Join _ H) rfl
        rotate_left 2
        · simp (disch := first | with_reducible rfl | assumption | omega | rfl | (simp only [go_sem]; first | done | omega)) only [go_sem, ↓reduceIte, reduceCtorEq, Nat.reduceEqDiff, Nat.reduceAdd, Nat.reduceSub, Nat.reduceMul, Nat.reduceDiv, Nat.reduceMod, Nat.reduceLeDiff, Nat.reduceLT, Nat.reduceBEq, Int.reduceEq, Int.reduceBEq, Int.reduceBNe, Int.reduceLT, Int.reduceLE, Int.reduceAdd, Int.reduceSub, Int.reduceNeg, Int.reduceToNat, Int.reducePow, Nat.reducePow, Int.reduceMul, Int.reduceDiv, ↓s_backup_Join, hlen, hl1, z0, hs1, z1, hne, hmk, w2]
          rfl
        · exact s2
      | true =>
        obtain ⟨H2, m2, w1⟩ := w1 h11
        have w1 : ∀ K : K, l_backup_Join_2 v (.map (some H.n)) v (.int .i64 (ls.length : Int)) (.int .i64 0) Hm (blkK [0, 9] 4 K) = K .normal [(0, v), (9, .map (some H.n))] H2 := w1
        simp only [if_true]
        obtain ⟨hcons, hall⟩ := ok11_cons Cons.nil h11
        rw [List.nil_append] at hcons
        have hN : (prN p) = ((prN p).toNat : Int) := by have := (pr_lt p).2.2; omega
        have hNl := toNat_lt (p := p)
        have hkeys : ∀ q ∈ ls, 0 ≤ prI q ∧ prI q < ((prN p).toNat : Int) := fun q hq => by
          have h1 := (okP_len (List.all_eq_true.1 hok q hq)).2
          have h2 := (pr_lt q).2.1
          have h3 := (hall q hq).2
          rw [h3] at h1
          omega
        have hlt := count_lt hcons hkeys
        have hle := count_le hcons hkeys
        obtain ⟨ents, fe, ee⟩ := m2.ent
        have hml := len_map (ts := []) mapT fe ee
        have hr2 := hr.still m2.still
        obtain ⟨b0, o0, y0, i0, c0, r0, _⟩ := hr2.at hpos
        have hp0 : ls[0] = p := by simp [hls]
        rw [hp0] at r0
        have i0 : ixS 1 v (.int .i64 0) = some (.pointer (some ⟨b0, o0, none⟩)) := i0
        obtain ⟨w6, z6, u6, _⟩ := r0.mid (sz := 1) rfl (i := 6) (j := 8) (q := .i64) (q' := .i64) (by decide) (by omega)
        have m6 : CC F.backup_number [w6] H2 = some (.int .u32 (prN p), H2) := q_number _ w6 H2 u6.1 len42
        have z6 : slS T.uint8 1 y0 (some (.int .i64 6)) (some (.int .i64 8)) none H2 = some w6 := z6
        have hpl := (pr_lt p)
        cases ho : outs ls (prN p).toNat with
        | none =>
          have hlt2 : ((esOf ls).length : Int) < prN p := by have := hlt.2 ho; omega
          refine ⟨.slice none 0 0, H, ?_, RdS.nil, Fr.refl H⟩
          apply pure_of _ (d_backup_Join _ H) rfl
          rotate_left 2
          · simp (disch := first | with_reducible rfl | assumption | omega | rfl | (simp only [go_sem]; first | done | omega)) only [go_sem, ↓reduceIte, reduceCtorEq, Nat.reduceEqDiff, Nat.reduceAdd, Nat.reduceSub, Nat.reduceMul, Nat.reduceDiv, Nat.reduceMod, Nat.reduceLeDiff, Nat.reduceLT, Nat.reduceBEq, Int.reduceEq, Int.reduceBEq, Int.reduceBNe, Int.reduceLT, Int.reduceLE, Int.reduceAdd, Int.reduceSub, Int.reduceNeg, Int.reduceToNat, Int.reducePow, Nat.reducePow, Int.reduceMul, Int.reduceDiv, ↓s_backup_Join, hlen, hl1, z0, hs1, z1, hne, hmk, w1, hml, i0, c0, z6, enterK_eq m6, x_uint32_int, hlt2]
            rfl
          · exact m2.still
        | some o =>
          have hlt2 : ¬ ((esOf ls).length : Int) < prN p := fun h => by
            have := hlt.1 (by omega)
            rw [this] at ho; cases ho
          have hcnt : (esOf ls).length = (prN p).toNat := by omega
          rw [hcnt] at hlt2 hml
          obtain ⟨out', H3, so, e3⟩ := l_J3 ls v H2 H.n m2.lt H.n ents fe ee hcons hsz (prN p).toNat (by omega) o ho (prN p).toNat 0 H2 (.slice none 0 0) [] (by omega) rfl Since.nil
          have e3 : ∀ K : K, l_backup_Join_3 v (.map (some H.n)) (.slice none 0 0) (.int .i64 ((prN p).toNat : Int)) (.int .i64 0) H2 (blkK [0, 15] 6 K) = K .normal [(0, v), (15, out')] H3 := e3
          have hol := outs_len hsz ho
          have hck := q_Check o out' H3 so.own.rd (by omega)
          have hr3 := hr2.still so.still
          obtain ⟨b1, o1, y1, i1, c1, r1, _⟩ := hr3.at hpos
          rw [hp0] at r1
          have i1 : ixS 1 v (.int .i64 0) = some (.pointer (some ⟨b1, o1, none⟩)) := i1
          rw [i0] at i1
          cases i1
          obtain ⟨wx, zx, ux, _⟩ := r1.to (sz := 1) rfl (j := 4) (q := .i64) (by omega)
          have mx : CC F.backup_number [wx] H3 = some (.int .u32 (prX p), H3) := q_number _ wx H3 ux.1 (by simp; omega)
          have zx : slS T.uint8 1 y1 none (some (.int .i64 4)) none H3 = some wx := zx
          have s3 : Still H H3 := m2.still.trans so.still
          by_cases hx : adl o = prX p
          · have hx' : (adl o = prX p) = True := by simp [hx]
            simp only [hx, if_true]
            have key : s_backup_Join guardK condL shareL Try.prog CC l_backup_Join_0 l_backup_Join_1 l_backup_Join_2 l_backup_Join_3 v H (endK Try.prog [.tmp 2, .tmp 3]) = some (.tuple #[out', .int .i64 0], H3) := by
              simp (disch := first | with_reducible rfl | assumption | omega | rfl | (simp only [go_sem]; first | done | omega)) only [go_sem, ↓reduceIte, reduceCtorEq, Nat.reduceEqDiff, Nat.reduceAdd, Nat.reduceSub, Nat.reduceMul, Nat.reduceDiv, Nat.reduceMod, Nat.reduceLeDiff, Nat.reduceLT, Nat.reduceBEq, Int.reduceEq, Int.reduceBEq, Int.reduceBNe, Int.reduceLT, Int.reduceLE, Int.reduceAdd, Int.reduceSub, Int.reduceNeg, Int.reduceToNat, Int.reducePow, Nat.reducePow, Int.reduceMul, Int.reduceDiv, ↓s_backup_Join, hlen, hl1, z0, hs1, z1, hne, hmk, w1, hml, i0, c0, z6, enterK_eq m6, x_uint32_int, hlt2, e3, enterK_eq hck, c1, zx, enterK_eq mx, hx']
            obtain ⟨H4, h4, h5, h6⟩ := keep_pair (n := 0) s3 so
            exact ⟨out', H4, (d_backup_Join _ H key).trans (by rw [h4]), h5, h6⟩
          · simp only [hx, if_false]
            refine ⟨.slice none 0 0, H, ?_, RdS.nil, Fr.refl H⟩
            apply pure_of _ (d_backup_Join _ H) rfl
            rotate_left 2
            · simp (disch := first | with_reducible rfl | assumption | omega | rfl | (simp only [go_sem]; first | done | omega)) only [go_sem, ↓reduceIte, reduceCtorEq, Nat.reduceEqDiff, Nat.reduceAdd, Nat.reduceSub, Nat.reduceMul, Nat.reduceDiv, Nat.reduceMod, Nat.reduceLeDiff, Nat.reduceLT, Nat.reduceBEq, Int.reduceEq, Int.reduceBEq, Int.reduceBNe, Int.reduceLT, Int.reduceLE, Int.reduceAdd, Int.reduceSub, Int.reduceNeg, Int.reduceToNat, Int.reducePow, Nat.reducePow, Int.reduceMul, Int.reduceDiv, ↓s_backup_Join, hlen, hl1, z0, hs1, z1, hne, hmk, w1, hml, i0, c0, z6, enterK_eq m6, x_uint32_int, hlt2, e3, enterK_eq hck, c1, zx, enterK_eq mx, hx]
              rfl
            · exact s3

/-! ### joins -/
theorem q_joins (ls : List (List UInt8)) (v w : Value) (want : List UInt8) (no : Int) (H : AHeap) (hr : Rds H v ls) (hw : BR H w want) (hl : ls.length ≤ 65535) (hsz : ∀ p ∈ ls, p.length ≤ 5000000) (hsum : sumP ls ≤ 4194304) :
    CC F.law_joins [v, w, .int .i64 no] H = some (.bool (decide (jn ls = (want, no))), H) := by
  obtain ⟨v', H', hj, hb, hs⟩ := q_Join ls v H hr hl hsz hsum
  have s1 := hb.str
  have s2 := BR.str (hw.still hs)
  by_cases e1 : (jn ls).1 = want
  · have e1' : ((jn ls).1 = want) = True := by simp [e1]
    by_cases e2 : (jn ls).2 = no
    · have e2' : ((jn ls).2 = no) = True := by simp [e2]
      have e : jn ls = (want, no) := Prod.ext e1 e2
      rw [decide_eq_true e]
      apply pure_of _ (d_law_joins _ _ _ H) rfl
      rotate_left 2
      · simp (disch := first | with_reducible rfl | assumption | omega | rfl | (simp only [go_sem]; first | done | omega)) only [go_sem, ↓reduceIte, reduceCtorEq, Nat.reduceEqDiff, Nat.reduceAdd, Nat.reduceSub, Nat.reduceMul, Nat.reduceDiv, Nat.reduceMod, Nat.reduceLeDiff, Nat.reduceLT, Nat.reduceBEq, Int.reduceEq, Int.reduceBEq, Int.reduceBNe, Int.reduceLT, Int.reduceLE, Int.reduceAdd, Int.reduceSub, Int.reduceNeg, Int.reduceToNat, Int.reducePow, Nat.reducePow, Int.reduceMul, Int.reduceDiv, ↓s_law_joins, enterK_eq hj, s1, s2, bl_mk, e1', e2']
        rfl
      · exact hs
    · have e : ¬ jn ls = (want, no) := fun h => e2 (by rw [h])
      rw [decide_eq_false e]
      apply pure_of _ (d_law_joins _ _ _ H) rfl
      rotate_left 2
      · simp (disch := first | with_reducible rfl | assumption | omega | rfl | (simp only [go_sem]; first | done | omega)) only [go_sem, ↓reduceIte, reduceCtorEq, Nat.reduceEqDiff, Nat.reduceAdd, Nat.reduceSub, Nat.reduceMul, Nat.reduceDiv, Nat.reduceMod, Nat.reduceLeDiff, Nat.reduceLT, Nat.reduceBEq, Int.reduceEq, Int.reduceBEq, Int.reduceBNe, Int.reduceLT, Int.reduceLE, Int.reduceAdd, Int.reduceSub, Int.reduceNeg, Int.reduceToNat, Int.reducePow, Nat.reducePow, Int.reduceMul, Int.reduceDiv, ↓s_law_joins, enterK_eq hj, s1, s2, bl_mk, e1', e2]
        rfl
      · exact hs
  · have e : ¬ jn ls = (want, no) := fun h => e1 (by rw [h])
    rw [decide_eq_false e]
    apply pure_of _ (d_law_joins _ _ _ H) rfl
    rotate_left 2
    · simp (disch := first | with_reducible rfl | assumption | omega | rfl | (simp only [go_sem]; first | done | omega)) only [go_sem, ↓reduceIte, reduceCtorEq, Nat.reduceEqDiff, Nat.reduceAdd, Nat.reduceSub, Nat.reduceMul, Nat.reduceDiv, Nat.reduceMod, Nat.reduceLeDiff, Nat.reduceLT, Nat.reduceBEq, Int.reduceEq, Int.reduceBEq, Int.reduceBNe, Int.reduceLT, Int.reduceLE, Int.reduceAdd, Int.reduceSub, Int.reduceNeg, Int.reduceToNat, Int.reducePow, Nat.reducePow, Int.reduceMul, Int.reduceDiv, ↓s_law_joins, enterK_eq hj, s1, s2, bl_mk, e1]
      rfl
    · exact hs

end Go.Proofs.Ytehnchfnhbmkdaa

/-
  Chapter 48: the pieces of a text, joined again in whatever order, are the text.
  Conditions: none. By an AI agent.
-/
set_option maxRecDepth 10000
set_option linter.unusedSimpArgs false
set_option linter.unusedVariables false
namespace Go.Proofs.Ytehnchfnhbmkdaa
open Go Eng

/-! ### numbers in bytes and back -/
theorem numB_snoc (l : List UInt8) (c : UInt8) : numB (l ++ [c]) = numB l * 256 + c.toNat := by
  unfold numB
  rw [List.foldl_append]
  rfl
theorem numB_be : ∀ (k : Nat) (n : Int), 0 ≤ n → n < 256 ^ k → numB (be n k) = n
  | 0, n, h0, h1 => by
    have h1 : n < 1 := h1
    have : n = 0 := by omega
    subst this; rfl
  | k + 1, n, h0, h1 => by
    rw [Int.pow_succ] at h1
    rw [be, numB_snoc, numB_be k (n / 256) (by omega) (by omega), u8_nat (mod256 n)]
    omega

theorem take_app {α : Type} {a b : List α} {k : Nat} (h : a.length = k) : (a ++ b).take k = a := by rw [List.take_append_of_le_length (by omega), List.take_of_length_le (by omega)]
theorem drop_app {α : Type} {a b : List α} {k : Nat} (h : a.length = k) : (a ++ b).drop k = b := by subst h; simp

theorem pieceL_pr (l : List UInt8) (size n i : Nat) (hn : n < 65536) (hi : i < 65536) :
    prX (pieceL l size n i) = adl l ∧ prI (pieceL l size n i) = i ∧ prN (pieceL l size n i) = n ∧ (pieceL l size n i).drop 8 = chunkL l size i ∧ 8 ≤ (pieceL l size n i).length := by
  have ha := adl_lt l
  have e : pieceL l size n i = be (adl l) 4 ++ (be i 2 ++ (be n 2 ++ chunkL l size i)) := by simp [pieceL]
  have d4 : (pieceL l size n i).drop 4 = be i 2 ++ (be n 2 ++ chunkL l size i) := by rw [e]; exact drop_app (be_length _ _)
  have d6 : (pieceL l size n i).drop 6 = be n 2 ++ chunkL l size i := by
    rw [show (6 : Nat) = 4 + 2 from rfl, ← List.drop_drop, d4]; exact drop_app (be_length _ _)
  have d8 : (pieceL l size n i).drop 8 = chunkL l size i := by
    rw [show (8 : Nat) = 6 + 2 from rfl, ← List.drop_drop, d6]; exact drop_app (be_length _ _)
  refine ⟨?_, ?_, ?_, d8, by rw [e]; simp [be_length]; omega⟩
  · unfold prX; rw [e, take_app (be_length _ _)]; exact numB_be 4 _ ha.1 ha.2
  · unfold prI; rw [d4, take_app (be_length _ _)]; exact numB_be 2 _ (by omega) (by show _ < 65536; omega)
  · unfold prN; rw [d6, take_app (be_length _ _)]; exact numB_be 2 _ (by omega) (by show _ < 65536; omega)

theorem mem_pcsTo {l : List UInt8} {size n : Nat} {p : List UInt8} : ∀ {m : Nat}, p ∈ pcsTo l size n m ↔ ∃ i, i < m ∧ p = pieceL l size n i
  | 0 => by simp [pcsTo]
  | m + 1 => by
    rw [pcsTo, List.mem_append, mem_pcsTo]
    constructor
    · rintro (⟨i, h1, h2⟩ | h)
      · exact ⟨i, by omega, h2⟩
      · exact ⟨m, by omega, by simpa using h⟩
    · rintro ⟨i, h1, h2⟩
      by_cases h : i < m
      · exact .inl ⟨i, h, h2⟩
      · have : i = m := by omega
        subst this; exact .inr (by simp [h2])

theorem fnd_of {i : Int} {s : List UInt8} : ∀ {ls : List (List UInt8)}, (∀ p ∈ ls, prI p = i → p.drop 8 = s) → (∃ p ∈ ls, prI p = i) → fnd ls i = some s
  | [], _, h => by obtain ⟨p, hp, _⟩ := h; simp at hp
  | p :: t, h1, h2 => by
    unfold fnd
    by_cases hp : prI p = i
    · rw [if_pos hp, h1 p (by simp) hp]
    · rw [if_neg hp]
      refine fnd_of (fun q hq => h1 q (by simp [hq])) ?_
      obtain ⟨q, hq, e⟩ := h2
      rcases List.mem_cons.1 hq with rfl | hq
      · exact absurd e hp
      · exact ⟨q, hq, e⟩

theorem ok11_of {x n : Int} : ∀ {t pre : List (List UInt8)}, (∀ p ∈ t, prX p = x ∧ prN p = n) → (∀ p ∈ t, ∀ q ∈ pre ++ t, agP p q = true) → ok11 x n pre t = true
  | [], _, _, _ => rfl
  | p :: t, pre, h1, h2 => by
    unfold ok11 cdP
    have hp := h1 p (by simp)
    have h3 : pre.all (agP p) = true := List.all_eq_true.2 fun q hq => h2 p (by simp) q (by simp [hq])
    have h4 : ok11 x n (pre ++ [p]) t = true := ok11_of (fun q hq => h1 q (by simp [hq])) fun q hq r hr => h2 q (by simp [hq]) r (by simpa using hr)
    rw [h3, h4]
    simp [hp.1, hp.2]

theorem outs_of {ls : List (List UInt8)} {l : List UInt8} {size : Nat} : ∀ {k : Nat}, (∀ i, i < k → fnd ls (i : Int) = some (chunkL l size i)) → outs ls k = some (l.take (k * size))
  | 0, _ => by simp [outs]
  | k + 1, h => by
    rw [outs, outs_of fun i hi => h i (by omega), h k (by omega)]
    show some _ = some _
    rw [Nat.succ_mul, List.take_add]
    rfl

theorem nP_cover (l : List UInt8) {size : Nat} (hs : 1 ≤ size) : l.length ≤ nP l size * size := by
  have h1 := (pcN_spec (len := l.length) hs).1
  have h2 : pcN l.length size ≤ nP l size := by rw [nP_pcN hs]; omega
  exact Nat.le_trans h1 (Nat.mul_le_mul_right _ h2)

/-- The pieces of l, in whatever order and however often. -/
def PcsOf (l : List UInt8) (size : Nat) (ls : List (List UInt8)) : Prop := (∀ p ∈ ls, p ∈ pcsL l size) ∧ ∀ p ∈ pcsL l size, p ∈ ls
theorem PcsOf.self {l : List UInt8} {size : Nat} : PcsOf l size (pcsL l size) := ⟨fun _ h => h, fun _ h => h⟩

theorem agP_pcs {l : List UInt8} {size : Nat} (hn : nP l size < 65536) {p q : List UInt8} (hp : p ∈ pcsL l size) (hq : q ∈ pcsL l size) : agP p q = true := by
  obtain ⟨i, hi, rfl⟩ := mem_pcsTo.1 hp
  obtain ⟨j, hj, rfl⟩ := mem_pcsTo.1 hq
  obtain ⟨_, a2, _, a4, _⟩ := pieceL_pr l size (nP l size) i hn (by omega)
  obtain ⟨_, b2, _, b4, _⟩ := pieceL_pr l size (nP l size) j hn (by omega)
  unfold agP
  rw [a2, b2, a4, b4]
  by_cases h : (j : Int) = (i : Int)
  · have : j = i := by omega
    subst this; simp
  · simp [h]

theorem jn_pcs {l : List UInt8} {size : Nat} (hs : 1 ≤ size) (hn : nP l size < 65536) {ls : List (List UInt8)} (h : PcsOf l size ls) : jn ls = (l, 0) := by
  have hpos : 0 < nP l size := by unfold nP; omega
  have hall : ∀ p ∈ ls, prX p = adl l ∧ prN p = nP l size ∧ okP p = true := fun p hp => by
    obtain ⟨i, hi, rfl⟩ := mem_pcsTo.1 (h.1 p hp)
    obtain ⟨a1, a2, a3, _, a5⟩ := pieceL_pr l size (nP l size) i hn (by omega)
    refine ⟨a1, a3, ?_⟩
    unfold okP
    rw [a2, a3]
    simp [a5]; omega
  have hok : ls.all okP = true := List.all_eq_true.2 fun p hp => (hall p hp).2.2
  have hag : ∀ p ∈ ls, ∀ q ∈ [] ++ ls, agP p q = true := fun p hp q hq => agP_pcs hn (h.1 p hp) (h.1 q (by simpa using hq))
  have hfnd : ∀ i, i < nP l size → fnd ls (i : Int) = some (chunkL l size i) := fun i hi => by
    refine fnd_of (fun p hp e => ?_) ⟨_, h.2 _ (mem_pcsTo.2 ⟨i, hi, rfl⟩), (pieceL_pr l size (nP l size) i hn (by omega)).2.1⟩
    obtain ⟨j, hj, rfl⟩ := mem_pcsTo.1 (h.1 p hp)
    obtain ⟨_, b2, _, b4, _⟩ := pieceL_pr l size (nP l size) j hn (by omega)
    rw [b2] at e
    have : j = i := by omega
    subst this; exact b4
  unfold jn
  rw [if_pos hok]
  cases hls : ls with
  | nil =>
    have := h.2 _ (mem_pcsTo.2 ⟨0, hpos, rfl⟩)
    rw [hls] at this; simp at this
  | cons p t =>
    simp only
    rw [← hls]
    have hp := hall p (by rw [hls]; simp)
    rw [hp.1, hp.2.1, if_pos (ok11_of (fun q hq => ⟨(hall q hq).1, (hall q hq).2.1⟩) hag)]
    rw [Int.toNat_natCast, outs_of hfnd, List.take_of_length_le (nP_cover l hs)]
    simp

end Go.Proofs.Ytehnchfnhbmkdaa

/-
  Chapter 48: an element of a row of its own is set; two are swapped; cuts.
  Conditions: none. By an AI agent.
-/
set_option maxRecDepth 10000
set_option linter.unusedSimpArgs false
set_option linter.unusedVariables false
namespace Go.Proofs.Ytehnchfnhbmkdaa
open Go Eng

theorem map_set' {α β : Type} (f : α → β) : ∀ (l : List α) (i : Nat) (a : α), (l.set i a).map f = (l.map f).set i (f a)
  | [], _, _ => rfl
  | _ :: _, 0, _ => rfl
  | x :: l, i + 1, a => by simp [map_set' f l i a]

/-- An element of one cell is set. -/
theorem Own.set1 {α : Type} {E : Enc α} {H : AHeap} {e : TypeId} {v : Value} {l : List α} (f : α → Value) (hw : E.w = 1) (hcells : ∀ l : List α, E.cells l = l.map f) (ho : ∀ a, Eng.one (f a) = true) (r : Own E H e v l) {i : Nat} (hi : i < l.length) (x : α) :
    ∃ b o k, ixS 1 v (.int .i64 (i : Int)) = some (.pointer (some ⟨b, o, none⟩)) ∧ blockOf v = some b ∧ b < H.n ∧ cellB (H.f b) o = some (f l[i]) ∧ wr1 (H.f b) o (f x) = some k ∧ Own E (H.set b k) e v (l.set i x) ∧ Fr (OnlyOf v) H (H.set b k) := by
  rcases r with ⟨h, _⟩ | ⟨h, _⟩ | ⟨b, o, c, xs, rfl, hl, hb, hf, hoc, hx⟩
  · subst h; simp at hi
  · subst h; simp at hi
  · rw [hw, Nat.mul_one] at hoc
    rw [hw, Nat.mul_one, hcells] at hx
    have hlen : o + i < xs.length := by omega
    have hcell : xs[o + i]? = some (f l[i]) := by
      have : ((xs.drop o).take l.length)[i]? = (l.map f)[i]? := by rw [hx]
      rw [List.getElem?_take_of_lt hi, List.getElem?_drop, List.getElem?_map, List.getElem?_eq_getElem hi] at this
      exact this
    have hix := ixS_nat (b := b) (o := o) (sz := 1) (code := 2 * c + 1) (q := .i64) hi
    rw [Nat.mul_one] at hix
    refine ⟨b, o + i, .cells (xs.set (o + i) (f x)) e true, hix, rfl, hb, by rw [hf]; exact hcell, by rw [hf]; exact wr1_c hlen (ho x), ?_, Fr.set (Fr.refl H) _ _ fun _ => rfl⟩
    refine .inr (.inr ⟨b, o, c, xs.set (o + i) (f x), by simp, by simpa using hl, hb, set_f_eq, by simp [hw]; exact hoc, ?_⟩)
    rw [hw, Nat.mul_one, hcells, map_set', List.length_set, ← hx, List.drop_set, if_neg (by omega), List.take_set]
    congr 1
    omega

theorem ESl_cells : ∀ l : List Sl, ESl.cells l = l.map Sl.v
  | [] => rfl
  | a :: l => by rw [Enc.cells_cons, ESl_cells l]; rfl

theorem Els.set {H : AHeap} : ∀ {sl : List Sl} {ls : List (List UInt8)} (_ : Els H sl ls) (i : Nat) {s : Sl} {l : List UInt8} (_ : BR H s.v l), Els H (sl.set i s) (ls.set i l)
  | [], [], _, _, _, _, _ => trivial
  | _ :: _, _ :: _, e, 0, _, _, h => ⟨h, e.2⟩
  | _ :: _, _ :: _, e, i + 1, _, _, h => ⟨e.1, Els.set e.2 i h⟩
  | [], _ :: _, e, _, _, _, _ => e.elim
  | _ :: _, [], e, _, _, _, _ => e.elim

theorem OwnS.set {H : AHeap} {v : Value} {ls : List (List UInt8)} (r : OwnS H v ls) {i : Nat} (hi : i < ls.length) {x : Value} {l : List UInt8} (rx : BR H x l) (hx : Off (OnlyOf v) x) :
    ∃ b o k y, ixS 1 v (.int .i64 (i : Int)) = some (.pointer (some ⟨b, o, none⟩)) ∧ blockOf v = some b ∧ b < H.n ∧ cellB (H.f b) o = some y ∧ BR H y ls[i] ∧ Off (OnlyOf v) y ∧ wr1 (H.f b) o x = some k ∧ OwnS (H.set b k) v (ls.set i l) ∧ Fr (OnlyOf v) H (H.set b k) := by
  obtain ⟨sl, h1, h2, h3⟩ := r
  obtain ⟨s, rfl⟩ := rx.shape
  have hll : sl.length = ls.length := h2.len
  have hi' : i < sl.length := by omega
  obtain ⟨b, o, k, e1, e2, e3, e4, e5, e6, e7⟩ := Own.set1 Sl.v rfl ESl_cells (fun _ => rfl) h1 hi' s
  refine ⟨b, o, k, sl[i].v, e1, e2, e3, e4, h2.at hi' hi, h3 _ (List.getElem_mem _), e5, ⟨sl.set i s, e6, ?_, ?_⟩, e7⟩
  · exact Els.set (h2.keep e7 h3) i (rx.keep e7 hx)
  · intro y hy
    rcases List.mem_or_eq_of_mem_set hy with h | h
    · exact h3 y h
    · rw [h]; exact hx

/-! ### cuts -/
theorem q_cuts_arg (v : Value) (n : Int) (H : AHeap) (hn : n < 1 ∨ 65536 < n) : CC F.law_cuts [v, .int .i64 n, .slice none 0 0, .int .i64 2] H = some (.bool true, H) := by
  have h1 := q_Cut_arg v n H hn
  have h2 := q_same [] [] (.slice none 0 0) (.slice none 0 0) H OwnS.nil.rds OwnS.nil.rds (by simp)
  apply pure_of _ (d_law_cuts _ _ _ _ H) rfl
  rotate_left 2
  · simp (disch := first | with_reducible rfl | assumption | omega | rfl | (simp only [go_sem]; first | done | omega)) only [go_sem, ↓reduceIte, reduceCtorEq, Nat.reduceEqDiff, Nat.reduceAdd, Nat.reduceSub, Nat.reduceMul, Nat.reduceDiv, Nat.reduceMod, Nat.reduceLeDiff, Nat.reduceLT, Nat.reduceBEq, Int.reduceEq, Int.reduceBEq, Int.reduceBNe, Int.reduceLT, Int.reduceLE, Int.reduceAdd, Int.reduceSub, Int.reduceNeg, Int.reduceToNat, Int.reducePow, Nat.reducePow, Int.reduceMul, Int.reduceDiv, ↓s_law_cuts, enterK_eq h1, enterK_eq h2]
    rfl
  · (repeat (first | exact Fr.refl _ | refine Fr.push ?_ _ | refine Fr.set ?_ _ _ (by intro h; first | omega | (simp only [go_sem] at h; omega))))
theorem q_cuts (l : List UInt8) (v w : Value) (n : Nat) (H : AHeap) (hr : BR H v l) (h1 : 1 ≤ n) (h2 : n ≤ 65536) (hl : l.length ≤ 4194304) (hm : nP l n ≤ 65535) (hw : Rds H w (pcsL l n)) : CC F.law_cuts [v, .int .i64 (n : Int), w, .int .i64 0] H = some (.bool true, H) := by
  obtain ⟨v', H', e1, e2, e3, _⟩ := q_Cut l v n H hr h1 h2 hl hm
  have e4 := q_same (pcsL l n) (pcsL l n) v' w H' e2.rds (hw.still e3) (by rw [pcsL_length]; omega)
  rw [decide_eq_true rfl] at e4
  apply pure_of _ (d_law_cuts _ _ _ _ H) rfl
  rotate_left 2
  · simp (disch := first | with_reducible rfl | assumption | omega | rfl | (simp only [go_sem]; first | done | omega)) only [go_sem, ↓reduceIte, reduceCtorEq, Nat.reduceEqDiff, Nat.reduceAdd, Nat.reduceSub, Nat.reduceMul, Nat.reduceDiv, Nat.reduceMod, Nat.reduceLeDiff, Nat.reduceLT, Nat.reduceBEq, Int.reduceEq, Int.reduceBEq, Int.reduceBNe, Int.reduceLT, Int.reduceLE, Int.reduceAdd, Int.reduceSub, Int.reduceNeg, Int.reduceToNat, Int.reducePow, Nat.reducePow, Int.reduceMul, Int.reduceDiv, ↓s_law_cuts, enterK_eq e1, enterK_eq e4]
    rfl
  · exact e3

end Go.Proofs.Ytehnchfnhbmkdaa

/-
  The seat's functions as terms over the engine's combinators (a program of ours printed it).
  Conditions: none. By an AI agent.
-/
set_option linter.unusedVariables false
namespace Go.Proofs.Ytehnchfnhbmkdaa
open Go Eng

/-! ticketline.ticketlinelaw48.BackupCuts -/

noncomputable def s_law_BackupCuts (mg : GT) (mc : CT) (ms : ST) (P : Program) (C : CallF) (L0 : Value → Value → Value → Value → AHeap → K → Res) (a0 : Value) (a1 : Value) (a2 : Value) (H : AHeap) (K0 : K) : Res :=
bareK (lenS a0) H fun t13 h1 =>
bareK (xbin P .gtr T.int (.tmp 13) (.const (.int .i64 300)) t13 (.int .i64 300)) h1 fun t14 h2 =>
mg t14 false (fun o1 => o1 a2 h2) h2 fun t16 h3 =>
mg t14 false (fun o2 => bareK (lenS t16) h3 o2) h3 fun t17 h4 =>
mg t14 false (fun o3 => bareK (xbin P .gtr T.int (.tmp 17) (.const (.int .i64 300)) t17 (.int .i64 300)) h4 o3) h4 fun t18 h5 =>
pickK t14 (.bool true) t18 fun t19 =>
mc t19 (fun k4 => enterK C F.law_known [] h5 fun t20 h6 =>
k4 .ret [(6, t20)] h6) (fun k4 =>
k4 .normal [(0, a0), (1, a1), (2, a2)] h5) (seqK (fun tT h7 =>
bareK (xbin P .lss T.int (.tmp 21) (.const (.int .i64 1)) (get tT 1) (.int .i64 1)) h7 fun t22 h8 =>
mg t22 false (fun o5 => o5 (get tT 1) h8) h8 fun t24 h9 =>
mg t22 false (fun o6 => bareK (xbin P .gtr T.int (.tmp 24) (.const (.int .i64 65536)) t24 (.int .i64 65536)) h9 o6) h9 fun t25 h10 =>
pickK t22 (.bool true) t25 fun t26 =>
mc t26 (fun k7 => enterK C F.law_cuts [(get tT 0), (get tT 1), (.slice none 0 0), (.int .i64 2)] h10 fun t29 h11 =>
mg t29 true (fun o8 => enterK C F.law_known [] h11 o8) h11 fun t31 h12 =>
pickK t29 t31 (.bool false) fun t32 =>
k7 .ret [(6, t32)] h12) (fun k7 =>
k7 .normal [(0, (get tT 0)), (1, (get tT 1)), (2, (get tT 2))] h10) (seqK (fun tT_1 h13 =>
enterK C F.law_pieces [(get tT_1 0), (get tT_1 1)] h13 fun t35 h14 =>
bothK (app T.uint8 1 1 (.slice none 0 0) (srcS 1 (get tT_1 0) h14) h14) fun t37 h15 =>
enterK C F.law_cuts [t37, (get tT_1 1), t35, (.int .i64 0)] h15 fun t41 h16 =>
bareK (xun P .not t41) h16 fun t42 h17 =>
mg t42 false (fun o9 => o9 t37 h17) h17 fun t44 h18 =>
mg t42 false (fun o10 => bothK (xconv P T.sl_uint8 T.string t44 h18) o10) h18 fun t45 h19 =>
mg t42 false (fun o11 => o11 (get tT_1 0) h19) h19 fun t46 h20 =>
mg t42 false (fun o12 => bothK (xconv P T.sl_uint8 T.string t46 h20) o12) h20 fun t47 h21 =>
mg t42 false (fun o13 => bareK (xbin P .neq T.string (.tmp 45) (.tmp 47) t45 t47) h21 o13) h21 fun t48 h22 =>
pickK t42 (.bool true) t48 fun t49 =>
mc t49 (fun k14 => k14 .ret [(6, (.bool false))] h22) (fun k14 =>
k14 .normal [(0, (get tT_1 0)), (2, (get tT_1 2)), (7, t35)] h22) (seqK (fun tT_2 h23 =>
ms (fun k15 =>
L0 (get tT_2 0) (get tT_2 2) (get tT_2 7) (.int .i64 0) h23 (blkK [0, 7] 0 k15)) (seqK (fun tT_3 h24 =>
enterK C F.law_joins [(get tT_3 7), (get tT_3 0), (.int .i64 0)] h24 fun t102 h25 =>
mg t102 true (fun o16 => enterK C F.law_known [] h25 o16) h25 fun t104 h26 =>
pickK t102 t104 (.bool false) fun t105 =>
K0 .ret [(6, t105)] h26) K0)) K0)) K0)) K0)

noncomputable def s_law_BackupCuts_b0 (mg : GT) (mc : CT) (ms : ST) (P : Program) (C : CallF) (L0 : Value → Value → Value → Value → AHeap → K → Res) (v0 : Value) (v2 : Value) (v7 : Value) (v9 : Value) (H : AHeap) (k : K) : Res :=
bareK (lenS v2) H fun t52 h24 =>
bareK (xbin P .lss T.int (.tmp 50) (.tmp 52) v9 t52) h24 fun t53 h25 =>
mc t53 (fun k16 => k16 .normal [(0, v0), (2, v2), (7, v7), (9, v9)] h25) (fun k16 =>
k16 (.exit 0) [(53, t53), (52, t52), (51, v2), (50, v9), (0, v0), (2, v2), (7, v7), (9, v9)] h25) (seqK (fun tT h26 =>
ms (fun k17 =>
bareK (lenS (get tT 7)) h26 fun t58 h27 =>
bareK (xbin P .rem T.int (.tmp 56) (.tmp 58) (get tT 9) t58) h27 fun t59 h28 =>
bareK (ixS 1 (get tT 2) (get tT 9)) h28 fun t62 h29 =>
bareK (ld1 h29 t62) h29 fun t63 h30 =>
bothK (xconv P T.uint8 T.int t63 h30) fun t64 h31 =>
bareK (lenS (get tT 7)) h31 fun t66 h32 =>
bareK (xbin P .rem T.int (.tmp 64) (.tmp 66) t64 t66) h32 fun t67 h33 =>
checkK true <|
bareK (ixS 1 (get tT 7) t67) h33 fun t74 h34 =>
bareK (ld1 h34 t74) h34 fun t75 h35 =>
bareK (ixS 1 (get tT 7) t59) h35 fun t78 h36 =>
bareK (ld1 h36 t78) h36 fun t79 h37 =>
bareK (ixS 1 (get tT 7) t59) h37 fun t80 h38 =>
quietK (st1 h38 t80 t75) fun _ h39 =>
bareK (ixS 1 (get tT 7) t67) h39 fun t81 h40 =>
quietK (st1 h40 t81 t79) fun _ h41 =>
checkK (okV (some true) none h38 h39 h33 h33 && (okV (some true) none h38 h39 h33 h33 && true)) <|
bareK (ixS 1 (get tT 2) (get tT 9)) h41 fun t84 h42 =>
bareK (ld1 h42 t84) h42 fun t85 h43 =>
bareK (xbin P .geq T.uint8 (.tmp 85) (.const (.int .u8 200)) t85 (.int .u8 200)) h43 fun t86 h44 =>
mg t86 true (fun o18 => o18 (get tT 7) h44) h44 fun t88 h45 =>
mg t86 true (fun o19 => bareK (lenS t88) h45 o19) h45 fun t89 h46 =>
mg t86 true (fun o20 => bareK (xbin P .lss T.int (.tmp 89) (.const (.int .i64 600)) t89 (.int .i64 600)) h46 o20) h46 fun t90 h47 =>
pickK t86 t90 (.bool false) fun t91 =>
mc t91 (fun k21 => bareK (ixS 1 (get tT 7) t59) h47 fun t95 h48 =>
bareK (ld1 h48 t95) h48 fun t96 h49 =>
bothK (app T.uint8 1 1 (.slice none 0 0) (srcS 1 t96 h49) h49) fun t97 h50 =>
bothK (bldL T.sl_uint8 [(.slice none 0 0)] 1 [(0, t97)] h50) fun t98 h51 =>
bothK (app T.sl_uint8 1 24 (get tT 7) (srcS 1 t98 h51) h51) fun t99 h52 =>
k21 .normal [(0, (get tT 0)), (2, (get tT 2)), (7, t99), (9, (get tT 9))] h52) (fun k21 =>
k21 .normal [(0, (get tT 0)), (2, (get tT 2)), (7, (get tT 7)), (9, (get tT 9))] h47) (blkK [0, 2, 7, 9] 1 k17)) (seqK (fun tT_1 h53 =>
bareK (xbin P .add T.int (.tmp 54) (.const (.int .i64 1)) (get tT_1 9) (.int .i64 1)) h53 fun t55 h54 =>
k .normal [(0, (get tT_1 0)), (2, (get tT_1 2)), (7, (get tT_1 7)), (9, t55)] h54) (afterK [0, 2, 7, 9] k))) (afterK [0, 2, 7, 9] k))

theorem s_law_BackupCuts_eq (M : CombL) (C : CallF) (LP : LoopH) (a0 : Value) (a1 : Value) (a2 : Value) (H : AHeap) : dBodyL M Try.prog hints C LP F.law_BackupCuts [a0, a1, a2] H = s_law_BackupCuts M.b.g M.c M.s Try.prog C (fun v0 v2 v7 v9 H k => loopL M Try.prog hints C LP F.law_BackupCuts 0 [(0, v0), (2, v2), (7, v7), (9, v9)] H k) a0 a1 a2 H (endK Try.prog [.tmp 6]) := by kernel_rfl

theorem s_law_BackupCuts_b0_eq (M : CombL) (C : CallF) (LP : LoopH) (v0 : Value) (v2 : Value) (v7 : Value) (v9 : Value) (H : AHeap) (k : K) : bodyL M Try.prog hints C LP F.law_BackupCuts 0 [(0, v0), (2, v2), (7, v7), (9, v9)] H (afterK [0, 2, 7, 9] k) = s_law_BackupCuts_b0 M.b.g M.c M.s Try.prog C (fun v0 v2 v7 v9 H k => loopL M Try.prog hints C LP F.law_BackupCuts 0 [(0, v0), (2, v2), (7, v7), (9, v9)] H k) v0 v2 v7 v9 H k := by kernel_rfl

end Go.Proofs.Ytehnchfnhbmkdaa

/-
  The equations of the seat's functions over calls in the limit (a program of ours printed it).
  Conditions: none. By an AI agent.
-/
set_option linter.unusedVariables false
namespace Go.Proofs.Ytehnchfnhbmkdaa
open Go Eng



noncomputable def l_law_BackupCuts_0 (v0 : Value) (v2 : Value) (v7 : Value) (v9 : Value) (H : AHeap) (k : K) : Res := loopL stdL Try.prog hints CC limLP F.law_BackupCuts 0 [(0, v0), (2, v2), (7, v7), (9, v9)] H k
theorem r_law_BackupCuts_0 (v0 : Value) (v2 : Value) (v7 : Value) (v9 : Value) (H : AHeap) (k : K) : l_law_BackupCuts_0 v0 v2 v7 v9 H k = s_law_BackupCuts_b0 guardK condL shareL Try.prog CC l_law_BackupCuts_0 v0 v2 v7 v9 H (seqK (fun T H => l_law_BackupCuts_0 (get T 0) (get T 2) (get T 7) (get T 9) H k) k) := ((loopL_next (by kernel_rfl) rfl H k).trans (s_law_BackupCuts_b0_eq stdL CC limLP v0 v2 v7 v9 H _)).trans (by kernel_rfl)
theorem d_law_BackupCuts (a0 : Value) (a1 : Value) (a2 : Value) (H : AHeap) {r : Value × AHeap} (h : s_law_BackupCuts guardK condL shareL Try.prog CC l_law_BackupCuts_0 a0 a1 a2 H (endK Try.prog [.tmp 6]) = some r) : CC F.law_BackupCuts [a0, a1, a2] H = some (tidy H r) := D_body (by kernel_rfl) ((s_law_BackupCuts_eq stdL CC limLP a0 a1 a2 H).trans (Eq.trans (show s_law_BackupCuts stdL.b.g stdL.c stdL.s Try.prog CC (fun v0 v2 v7 v9 H k => loopL stdL Try.prog hints CC limLP F.law_BackupCuts 0 [(0, v0), (2, v2), (7, v7), (9, v9)] H k) a0 a1 a2 H (endK Try.prog [.tmp 6]) = s_law_BackupCuts guardK condL shareL Try.prog CC l_law_BackupCuts_0 a0 a1 a2 H (endK Try.prog [.tmp 6]) by kernel_rfl) h))

end Go.Proofs.Ytehnchfnhbmkdaa

/-
  The engine, part 27: a law's arguments that are slices: what they read as in the abstract heap.
  Conditions: none. By an AI agent.
-/
namespace Go.Proofs.Ytehnchfnhbmkdaa.Eng
open Go
set_option linter.unusedVariables false
set_option linter.unusedSimpArgs false

variable {P : Program} {W : World}

theorem cell_abs {a : Addr} {v : Value} (h : W.cell? a = some v) : ∃ cs e fr, W.heap[a.block]? = some (.cells cs e fr) ∧ cs[a.off]? = some v ∧ a.spot = none := by
  unfold World.cell? at h
  split at h
  · rename_i c e fr hw
    split at h
    · cases h
    · rename_i hs
      exact ⟨c, e, fr, hw, h, by simpa using hs⟩
  · cases h

/-- A cell that names no memory. -/
def plain : Value → Bool
  | .int _ _ | .string _ | .bool _ => true
  | _ => false

theorem conv_plain {n : Nat} {v : Value} (h : plain v = true) : conv n v = v := by
  cases v <;> first | rfl | (simp [plain] at h)

theorem absHeap_cell {a : Addr} {v : Value} (h : W.cell? a = some v) (hp : plain v = true) : a.block < W.heap.size ∧ a.spot = none ∧ cellB ((absHeap W).f a.block) a.off = some v := by
  obtain ⟨cs, e, fr, h1, h2, h3⟩ := cell_abs h
  refine ⟨by rw [Array.getElem?_eq_some_iff] at h1; exact h1.1, h3, ?_⟩
  simp only [absHeap, h1, cellB]
  rw [List.getElem?_map, Array.getElem?_toList, h2]
  simp [conv_plain hp]

theorem cutB_of_cells {k : Blk} {o n : Nat} {xs : List Value} (hl : xs.length = n) (hn : 0 < n) (h : ∀ i, i < n → cellB k (o + i) = xs[i]?) : cutB k o n = some xs := by
  cases k with
  | cells ys e rw =>
    unfold cutB
    simp only
    have hlen : o + n ≤ ys.length := by
      have := h (n - 1) (by omega)
      rw [List.getElem?_eq_getElem (by omega)] at this
      unfold cellB at this
      have := (List.getElem?_eq_some_iff.1 this).1
      omega
    rw [if_pos hlen]
    congr 1
    apply List.ext_getElem?
    intro i
    by_cases hi : i < n
    · rw [List.getElem?_take_of_lt hi, List.getElem?_drop, ← h i hi]
      rfl
    · rw [List.getElem?_eq_none (by simp; omega), List.getElem?_eq_none (by omega)]
  | _ =>
    have := h 0 hn
    rw [List.getElem?_eq_getElem (by omega)] at this
    cases this

section
variable {α : Type} {E : Enc α} {R : α → Prop} {H : Type} {enc : TypeId × Value → H}

/-- A slice of elements of plain cells reads as a list. -/
theorem open_rd {t e : TypeId} {v : Value} {d : DataW H} {p : List MemPlace} (ht : P.underlying t = some (.slice e)) (hC : P.cellsOf e = E.w)
    (dec : ∀ cs n y, DataW.trod enc P W 0 (fun _ => true) true n e cs = some y → cs.length = E.w → ∃ a, cs = E.enc a ∧ R a ∧ cs.all plain = true)
    (hval : Value.okWide P W .any 0 t v) (h : DataW.Trod enc P W 0 (fun _ => true) true t v d p) :
    ∃ l : List α, Rd E (absHeap W) (convA W.heap.size v) l ∧ (∀ a, a ∈ l → R a) ∧ l.length ≤ maxLen := by
  obtain ⟨a0, len0, cap0, rfl⟩ := Go.WideShapes.okWide_slice ht hval
  obtain ⟨fuel, hf⟩ := h
  rcases DataW.trod_slice ht hf with ⟨h0, _⟩ | ⟨a, len, cap, elems, rest, n, _, hcs, _, _, hl, hm, hlen, hel, _, _⟩
  · simp [Value.cells] at h0
    obtain ⟨rfl, rfl, rfl⟩ := h0
    exact ⟨[], .inl ⟨rfl, rfl⟩, by simp, by simp⟩
  · simp [Value.cells] at hcs
    obtain ⟨rfl, rfl, rfl⟩ := hcs
    -- the elements
    have hone : ∀ i, i < len0 → ∃ x : α, R x ∧ ∀ j, j < E.w → ∃ c, W.cell? ((a.add (i * E.w)).add j) = some c ∧ (E.enc x)[j]? = some c ∧ plain c = true := by
      intro i hi
      have h1 := hel i hi
      rw [List.getElem?_eq_getElem (by omega)] at h1
      obtain ⟨cs, hc, htr⟩ := Option.bind_eq_some_iff.1 h1
      rw [hC] at hc
      obtain ⟨_, hcl, hat⟩ := World.cells?_some hc
      obtain ⟨x, hx, hR, hpl⟩ := dec cs _ _ htr hcl
      refine ⟨x, hR, fun j hj => ?_⟩
      have hj' : j < cs.length := by omega
      refine ⟨cs[j], by rw [hat j hj, List.getElem?_eq_getElem hj'], by rw [← hx, List.getElem?_eq_getElem hj'], List.all_eq_true.1 hpl _ (List.getElem_mem _)⟩
    have hall : ∀ m, m ≤ len0 → ∃ l : List α, l.length = m ∧ (∀ x, x ∈ l → R x) ∧ ∀ i, ∀ h : i < l.length, ∀ j, j < E.w → ∃ c, W.cell? ((a.add (i * E.w)).add j) = some c ∧ (E.enc l[i])[j]? = some c ∧ plain c = true := by
      intro m
      induction m with
      | zero => intro _; exact ⟨[], rfl, by simp, by simp⟩
      | succ m ih =>
        intro hm
        obtain ⟨l, h1, h2, h3⟩ := ih (by omega)
        obtain ⟨x, hR, hx⟩ := hone m (by omega)
        refine ⟨l ++ [x], by simp [h1], fun y hy => ?_, fun i hi j hj => ?_⟩
        · rcases List.mem_append.1 hy with hy | hy
          · exact h2 y hy
          · simp at hy; subst hy; exact hR
        · by_cases hil : i < l.length
          · rw [List.getElem_append_left hil]; exact h3 i hil j hj
          · have : i = m := by simp at hi; omega
            subst this
            rw [List.getElem_append_right (by omega)]
            simp only [h1, Nat.sub_self, List.getElem_cons_zero]
            exact hx j hj
    obtain ⟨l, hll, hR, hcell⟩ := hall len0 (Nat.le_refl _)
    refine ⟨l, ?_, hR, by omega⟩
    by_cases h0 : l = []
    · subst h0
      simp at hll
      subst hll
      -- no element: the place is one all the same
      simp only [Value.okWide, ht, Cell.okWide, Cell.ok] at hval
      obtain ⟨hle, _, _, hs, row, cells, hshape, _⟩ := hval
      have hb : a.block < W.heap.size := by
        unfold World.shape? at hshape
        split at hshape
        · rename_i hw; exact (Array.getElem?_eq_some_iff.1 hw).1
        · cases hshape
      obtain ⟨b, o, s⟩ := a
      simp only at hs hb
      subst hs
      refine .inr (.inl ⟨rfl, ⟨b, o, none⟩, 2 * cap0, ?_, rfl⟩)
      simp only [convA, conv]
      rw [if_pos ⟨hb, hle⟩]
    · have hpos : 0 < l.length := List.length_pos_iff.2 h0
      obtain ⟨c0, hc0, _, hp0⟩ := hcell 0 hpos 0 E.pos
      simp only [Nat.zero_mul] at hc0
      have hadd0 : (a.add 0).add 0 = a := by simp [Addr.add]
      rw [hadd0] at hc0
      obtain ⟨hb, hs, _⟩ := absHeap_cell hc0 hp0
      obtain ⟨b, o, s⟩ := a
      simp only at hs hb
      subst hs
      have hconv : convA W.heap.size (.slice (some ⟨b, o, none⟩) len0 cap0) = .slice (some ⟨b, o, none⟩) l.length (2 * cap0) := by
        rw [hll]
        simp only [convA, conv]
        rw [if_pos ⟨hb, hl⟩]
      rw [hconv]
      refine .inr (.inr ⟨b, o, _, rfl, h0, hb, ?_⟩)
      refine cutB_of_cells (by simp) (Nat.mul_pos hpos E.pos) fun i hi => ?_
      have hw := E.pos
      have hdm : i = (i / E.w) * E.w + i % E.w := by rw [Nat.mul_comm]; exact (Nat.div_add_mod i E.w).symm
      have hmod : i % E.w < E.w := Nat.mod_lt _ hw
      have hdiv : i / E.w < l.length := Nat.div_lt_of_lt_mul (by rw [Nat.mul_comm]; exact hi)
      obtain ⟨c, hc, hec, hpc⟩ := hcell (i / E.w) hdiv (i % E.w) hmod
      have haddr : ((⟨b, o, none⟩ : Addr).add (i / E.w * E.w)).add (i % E.w) = ⟨b, o + i, none⟩ := by
        have : ∀ (x y z : Nat), ((⟨x, y, none⟩ : Addr).add z) = ⟨x, y + z, none⟩ := by
          intro x y z
          unfold Addr.add
          split
          · rename_i h; subst h; rfl
          · rfl
        rw [this, this, Nat.add_assoc, ← hdm]
      rw [haddr] at hc
      obtain ⟨_, _, habs⟩ := absHeap_cell hc hpc
      rw [habs]
      have hel2 := E.cells_elem l (i / E.w) hdiv
      have : (E.cells l)[i]? = (E.enc l[i / E.w])[i % E.w]? := by
        rw [← hel2, List.getElem?_take_of_lt hmod, List.getElem?_drop, ← hdm]
      rw [this, hec]
end

/-! ### What cells of a kind are -/
theorem dec_int {H : Type} {enc : TypeId × Value → H} {e : TypeId} {k : IntKind} (he : P.underlying e = some (.int k)) {n : Nat} {y : DataW H × List MemPlace} {c : Value} (h : DataW.trod enc P W 0 (fun _ => true) true n e [c] = some y) :
    ∃ i, c = .int k i ∧ (Lit.int k i).wf = true := by
  obtain ⟨i, h1, _, h2⟩ := DataW.trod_int he h
  exact ⟨i, (List.cons.inj h1).1, h2⟩
theorem dec_str {H : Type} {enc : TypeId × Value → H} {e : TypeId} (he : P.underlying e = some .string) {n : Nat} {y : DataW H × List MemPlace} {c : Value} (h : DataW.trod enc P W 0 (fun _ => true) true n e [c] = some y) :
    ∃ s, c = .string s ∧ s.size ≤ maxLen := by
  obtain ⟨i, h1, _, h2⟩ := DataW.trod_string he h
  exact ⟨i, (List.cons.inj h1).1, h2⟩

theorem wf_i64 {i : Int} (h : (Lit.int .i64 i).wf = true) : -9223372036854775808 ≤ i ∧ i < 9223372036854775808 := by
  simp [Lit.wf, IntKind.min, IntKind.max, IntKind.signed, IntKind.bits] at h
  omega

/-- A field of a struct of one-cell fields. -/
theorem dec_field {H : Type} {enc : TypeId × Value → H} {t : TypeId} {fs : Array Field} (ht : P.underlying t = some (.struct fs)) {n : Nat} {cs : List Value} {y : DataW H × List MemPlace} (h : DataW.trod enc P W 0 (fun _ => true) true n t cs = some y)
    {i : Nat} {f : Field} (hf : fs[i]? = some f) (ho : f.offset = i) (hc : P.cellsOf f.type = 1) {c : Value} (hci : cs[i]? = some c) :
    ∃ m z, DataW.trod enc P W 0 (fun _ => true) true m f.type [c] = some z := by
  obtain ⟨xs, m, _, _, hl, hxl, hfd⟩ := DataW.trod_struct ht h
  have h1 := hfd i f hf
  have hi : i < cs.length := (List.getElem?_eq_some_iff.1 hci).1
  have hone : (cs.drop f.offset).take (P.cellsOf f.type) = [c] := by
    rw [ho, hc, List.drop_eq_getElem_cons hi]
    have := (List.getElem?_eq_some_iff.1 hci).2
    simp [this]
  rw [hone] at h1
  have hix : i < xs.length := by rw [hxl]; exact (Array.getElem?_eq_some_iff.1 hf).1
  rw [List.getElem?_eq_getElem hix] at h1
  exact ⟨_, _, h1⟩

end Go.Proofs.Ytehnchfnhbmkdaa.Eng

/-
  The engine, part 32: a law's arguments that are slices of slices (or of anything that reads): an empty slice may name any place.
  Conditions: none. By an AI agent.
-/
namespace Go.Proofs.Ytehnchfnhbmkdaa.Eng
open Go
set_option linter.unusedVariables false
set_option linter.unusedSimpArgs false

/-- As conv, and a slice without capacity stands for any such slice. -/
def conv2 (n : Nat) : Value → Value
  | .slice (some _) 0 0 => if 0 < n then .slice (some ⟨0, 0, none⟩) 0 0 else top
  | v => conv n v
def convA2 (n : Nat) : Value → Value
  | .agg cs => .agg (cs.map (conv2 n))
  | v => conv2 n v
def absHeap2 (w : World) : AHeap := ⟨w.heap.size, 1, fun b => match w.heap[b]? with | some (.cells cs e _) => .cells (cs.toList.map (conv2 w.heap.size)) e false | _ => .dead, fun _ => 0⟩

theorem conv2_rel (w : World) (v : Value) : RV (idE w) (conv2 w.heap.size v) v := by
  unfold conv2
  split
  · split
    · exact .sl0 (by decide)
    · exact .unk _
  · exact conv_rel w v
theorem convA2_rel (w : World) (v : Value) : RV (idE w) (convA2 w.heap.size v) v := by
  unfold convA2
  split
  · rename_i cs
    refine .agg (by simp) fun i u u' h h' => ?_
    simp only [Array.getElem?_map, Option.map_eq_some_iff] at h
    obtain ⟨x, hx, rfl⟩ := h
    rw [h'] at hx
    cases hx
    exact conv2_rel w u'
  · exact conv2_rel w v
theorem conv2_ad (n : Nat) (v : Value) : AD n (conv2 n v) := by
  unfold conv2
  split
  · split
    · rename_i h; exact .sl h
    · exact .unk
  · exact conv_ad n v
theorem convA2_ad (n : Nat) (v : Value) : AD n (convA2 n v) := by
  unfold convA2
  split
  · refine .agg fun u hu => ?_
    simp only [Array.toList_map, List.mem_map] at hu
    obtain ⟨x, _, rfl⟩ := hu
    exact conv2_ad n x
  · exact conv2_ad n v
theorem absHeap2_rel (P : Program) (w : World) (hgl : Glob w.heap.size w) : Rel P w.heap.size (idE w) (absHeap2 w) w := by
  refine ⟨fun b L h => ?_, fun b L h => ?_, fun b c L M h1 h2 hne ho ha => ?_, Nat.le_refl _, fun _ => Nat.zero_lt_one, hgl⟩
  · unfold idE at h
    split at h
    · rename_i hb
      simp at h
      subst h
      simp only [absHeap2]
      cases hq : w.heap[b]? with
      | none => trivial
      | some o =>
        cases o with
        | cells cs e fr =>
          refine ⟨cs, e, fr, hq, rfl, by simp, fun i v hv => ?_, fun h => by cases h⟩
          simp only [List.getElem?_map, Option.map_eq_some_iff] at hv
          obtain ⟨x, hx, rfl⟩ := hv
          exact ⟨x, by simpa using hx, conv2_rel w x⟩
        | _ => trivial
    · simp at h
  · unfold idE at h
    split at h
    · rename_i hb
      simp at h
      subst h
      exact ⟨hb, hb⟩
    · simp at h
  · exfalso
    simp only [absHeap2] at ho
    split at ho <;> simp [owned] at ho
theorem absHeap2_cl (w : World) : Cl (absHeap2 w) := by
  refine ⟨fun b xs e rw h => ?_, fun b es h => ?_, fun _ => Nat.zero_lt_one⟩
  · simp only [absHeap2] at h
    split at h
    · cases h
      intro v hv
      obtain ⟨x, _, rfl⟩ := List.mem_map.1 hv
      exact conv2_ad _ x
    · cases h
  · simp only [absHeap2] at h
    split at h <;> cases h

theorem law_calls2 {P : Program} {prims : Prims} {hints : Hints} (hp : PrimsOK P prims) (hm : P.follows .mixedOrders = true) {f : FuncId} {args : Array Value} {W : World} (hgl : Glob W.heap.size W)
    (h : ∃ n H', dCall P prims hints n f (args.toList.map (convA2 W.heap.size)) (absHeap2 W) = some (.bool true, H')) :
    Calls P f args W fun e W' => e = .returned (.bool true) ∧ RowKit.Below W.heap.size W W' := by
  obtain ⟨n, H', h⟩ := h
  have hrel := absHeap2_rel P W hgl
  have hargs : RVs (idE W) (args.toList.map (convA2 W.heap.size)) args.toList := RVs.of_get (by simp) fun i v v' hv hv' => by
    simp only [List.getElem?_map, Option.map_eq_some_iff] at hv
    obtain ⟨x, hx, rfl⟩ := hv
    rw [hv'] at hx
    cases hx
    exact convA2_rel W v'
  have had : ADs (absHeap2 W).n (args.toList.map (convA2 W.heap.size)) := fun v hv => by
    obtain ⟨x, _, rfl⟩ := List.mem_map.1 hv
    exact convA2_ad _ x
  have := call_sound hp hm n f _ _ _ _ h (absHeap2_cl W) had _ _ W args.toList hrel hargs
  rw [Array.toArray_toList] at this
  refine this.mono ?_
  rintro e w' ⟨v', ι', rfl, hv, hr, hs⟩
  refine ⟨?_, hs.below hrel⟩
  cases hv
  rfl

variable {P : Program} {W : World}
theorem absHeap2_cell {a : Addr} {v : Value} (h : W.cell? a = some v) : a.block < W.heap.size ∧ a.spot = none ∧ cellB ((absHeap2 W).f a.block) a.off = some (conv2 W.heap.size v) := by
  obtain ⟨cs, e, fr, h1, h2, h3⟩ := cell_abs h
  refine ⟨by rw [Array.getElem?_eq_some_iff] at h1; exact h1.1, h3, ?_⟩
  simp only [absHeap2, h1, cellB]
  rw [List.getElem?_map, Array.getElem?_toList, h2]
  rfl

section
variable {α : Type} {E : Enc α} {R : α → Prop} {H : Type} {enc : TypeId × Value → H}

/-- A slice, read out of its one cell. -/
theorem open_cell2 {t e e' : TypeId} {cs : List Value} {n : Nat} {y : DataW H × List MemPlace} (ht : P.underlying t = some (.slice e)) (hC : P.cellsOf e = E.w)
    (dec : ∀ cs n y, DataW.trod enc P W 0 (fun _ => true) true n e cs = some y → cs.length = E.w → ∃ a, cs.map (conv2 W.heap.size) = E.enc a ∧ R a)
    (hpos : 0 < W.heap.size ∨ ∀ a, cs ≠ [.slice (some a) 0 0]) (hf : DataW.trod enc P W 0 (fun _ => true) true n t cs = some y) :
    ∃ v l, cs = [v] ∧ RdS E e' (absHeap2 W) (conv2 W.heap.size v) l ∧ (∀ a, a ∈ l → R a) ∧ l.length ≤ maxLen ∧ ∃ a k c, v = .slice a k c := by
  rcases DataW.trod_slice ht hf with ⟨rfl, _⟩ | ⟨a, len, cap, elems, rest, n, _, rfl, _, _, hl, hm, hlen, hel, hrest, _⟩
  · exact ⟨_, [], rfl, RdS.nil, by simp, by simp, _, _, _, rfl⟩
  · refine ⟨.slice (some a) len cap, ?_⟩
    have hone : ∀ i, i < len → ∃ x : α, R x ∧ ∀ j, j < E.w → ∃ c, W.cell? ((a.add (i * E.w)).add j) = some c ∧ (E.enc x)[j]? = some (conv2 W.heap.size c) := by
      intro i hi
      have h1 := hel i hi
      rw [List.getElem?_eq_getElem (by omega)] at h1
      obtain ⟨cs, hc, htr⟩ := Option.bind_eq_some_iff.1 h1
      rw [hC] at hc
      obtain ⟨_, hcl, hat⟩ := World.cells?_some hc
      obtain ⟨x, hx, hR⟩ := dec cs _ _ htr hcl
      refine ⟨x, hR, fun j hj => ?_⟩
      have hj' : j < cs.length := by omega
      refine ⟨cs[j], by rw [hat j hj, List.getElem?_eq_getElem hj'], ?_⟩
      rw [← hx, List.getElem?_map, List.getElem?_eq_getElem hj']
      rfl
    have hall : ∀ m, m ≤ len → ∃ l : List α, l.length = m ∧ (∀ x, x ∈ l → R x) ∧ ∀ i, ∀ h : i < l.length, ∀ j, j < E.w → ∃ c, W.cell? ((a.add (i * E.w)).add j) = some c ∧ (E.enc l[i])[j]? = some (conv2 W.heap.size c) := by
      intro m
      induction m with
      | zero => intro _; exact ⟨[], rfl, by simp, by simp⟩
      | succ m ih =>
        intro hm
        obtain ⟨l, h1, h2, h3⟩ := ih (by omega)
        obtain ⟨x, hR, hx⟩ := hone m (by omega)
        refine ⟨l ++ [x], by simp [h1], fun y hy => ?_, fun i hi j hj => ?_⟩
        · rcases List.mem_append.1 hy with hy | hy
          · exact h2 y hy
          · simp at hy; subst hy; exact hR
        · by_cases hil : i < l.length
          · rw [List.getElem_append_left hil]; exact h3 i hil j hj
          · have : i = m := by simp at hi; omega
            subst this
            rw [List.getElem_append_right (by omega)]
            simp only [h1, Nat.sub_self, List.getElem_cons_zero]
            exact hx j hj
    obtain ⟨l, hll, hR, hcell⟩ := hall len (Nat.le_refl _)
    refine ⟨l, rfl, ?_, hR, by omega, _, _, _, rfl⟩
    by_cases hc0 : cap = 0
    · -- no capacity
      have hl0 : len = 0 := by omega
      have h0 : l = [] := List.length_eq_zero_iff.1 (by omega)
      subst hc0 hl0 h0
      have hp : 0 < W.heap.size := hpos.resolve_right fun h => h a rfl
      have e1 : conv2 W.heap.size (.slice (some a) 0 0) = .slice (some ⟨0, 0, none⟩) 0 0 := by unfold conv2; simp [hp]
      rw [e1]
      exact ⟨.inr (.inl ⟨rfl, _, _, rfl, rfl⟩), .inr ⟨0, 0, 0, 0, rfl, Nat.le_refl _, .inl rfl, hp⟩⟩
    · -- a cell stands at its place
      have hfirst : ∃ c, W.cell? a = some c := by
        have key : ∀ (o : Option (DataW H × List MemPlace)), (W.cells? 0 (a.add 0) (P.cellsOf e)).bind (DataW.trod enc P W 0 (fun _ => true) true n e) = o → (∃ z, o = some z) → ∃ c, W.cell? a = some c := fun o h1 ⟨z, h2⟩ => by
          rw [h2] at h1
          obtain ⟨cs, hc, _⟩ := Option.bind_eq_some_iff.1 h1
          rw [hC] at hc
          obtain ⟨_, hcl, hat⟩ := World.cells?_some hc
          have := hat 0 E.pos
          have hpp := E.pos
          rw [List.getElem?_eq_getElem (by omega)] at this
          exact ⟨_, by simpa [Addr.add] using this⟩
        by_cases h0 : len = 0
        · obtain ⟨h1, h2⟩ := hrest rfl
          have := h2 0 (by omega)
          rw [h0] at this
          simp only [Nat.add_zero, Nat.zero_mul] at this
          exact key _ this ⟨_, List.getElem?_eq_getElem (by omega)⟩
        · have := hel 0 (by omega)
          simp only [Nat.zero_mul] at this
          exact key _ this ⟨_, List.getElem?_eq_getElem (by omega)⟩
      obtain ⟨c0, hc0'⟩ := hfirst
      obtain ⟨hb, hs, _⟩ := absHeap2_cell hc0'
      obtain ⟨b, o, s⟩ := a
      simp only at hs hb
      subst hs
      have hconv : conv2 W.heap.size (.slice (some ⟨b, o, none⟩) len cap) = .slice (some ⟨b, o, none⟩) l.length (2 * cap) := by
        have : conv2 W.heap.size (.slice (some ⟨b, o, none⟩) len cap) = conv W.heap.size (.slice (some ⟨b, o, none⟩) len cap) := by
          unfold conv2
          split
          · rename_i h; cases h; exact absurd rfl hc0
          · rfl
        rw [this, hll]
        simp only [conv]
        rw [if_pos ⟨hb, hl⟩]
      rw [hconv]
      refine ⟨?_, .inr ⟨b, o, _, _, rfl, by omega, .inl (by omega), hb⟩⟩
      by_cases h0 : l = []
      · subst h0
        exact .inr (.inl ⟨rfl, _, _, rfl, rfl⟩)
      refine .inr (.inr ⟨b, o, _, rfl, h0, hb, ?_⟩)
      have hlp : 0 < l.length := List.length_pos_iff.2 h0
      refine cutB_of_cells (by simp) (Nat.mul_pos hlp E.pos) fun i hi => ?_
      have hw := E.pos
      have hdm : i = (i / E.w) * E.w + i % E.w := by rw [Nat.mul_comm]; exact (Nat.div_add_mod i E.w).symm
      have hmod : i % E.w < E.w := Nat.mod_lt _ hw
      have hdiv : i / E.w < l.length := Nat.div_lt_of_lt_mul (by rw [Nat.mul_comm]; exact hi)
      obtain ⟨c, hc, hec⟩ := hcell (i / E.w) hdiv (i % E.w) hmod
      have haddr : ((⟨b, o, none⟩ : Addr).add (i / E.w * E.w)).add (i % E.w) = ⟨b, o + i, none⟩ := by
        have : ∀ (x y z : Nat), ((⟨x, y, none⟩ : Addr).add z) = ⟨x, y + z, none⟩ := by
          intro x y z
          unfold Addr.add
          split
          · rename_i h; subst h; rfl
          · rfl
        rw [this, this, Nat.add_assoc, ← hdm]
      rw [haddr] at hc
      obtain ⟨_, _, habs⟩ := absHeap2_cell hc
      rw [habs]
      have hel2 := E.cells_elem l (i / E.w) hdiv
      have : (E.cells l)[i]? = (E.enc l[i / E.w])[i % E.w]? := by
        rw [← hel2, List.getElem?_take_of_lt hmod, List.getElem?_drop, ← hdm]
      rw [this, hec]

/-- An argument that is a slice. -/
theorem open_rd2 {t e e' : TypeId} {v : Value} {d : DataW H} {p : List MemPlace} (ht : P.underlying t = some (.slice e)) (hC : P.cellsOf e = E.w)
    (dec : ∀ cs n y, DataW.trod enc P W 0 (fun _ => true) true n e cs = some y → cs.length = E.w → ∃ a, cs.map (conv2 W.heap.size) = E.enc a ∧ (0 < W.heap.size → R a))
    (hval : Value.okWide P W .any 0 t v) (h : DataW.Trod enc P W 0 (fun _ => true) true t v d p) :
    ∃ l : List α, RdS E e' (absHeap2 W) (convA2 W.heap.size v) l ∧ (∀ a, a ∈ l → R a) ∧ l.length ≤ maxLen := by
  obtain ⟨a0, len0, cap0, rfl⟩ := Go.WideShapes.okWide_slice ht hval
  obtain ⟨fuel, hf⟩ := h
  have hpos : 0 < W.heap.size ∨ ∀ a, (Value.slice a0 len0 cap0).cells.toList ≠ [.slice (some a) 0 0] := by
    cases a0 with
    | none => exact .inr fun a h => by simp [Value.cells] at h
    | some a =>
      left
      simp only [Value.okWide, ht, Cell.okWide, Cell.ok] at hval
      obtain ⟨hle, _, _, hs, row, cells, hshape, _⟩ := hval
      unfold World.shape? at hshape
      split at hshape
      · rename_i hw; have := (Array.getElem?_eq_some_iff.1 hw).1; omega
      · cases hshape
  obtain ⟨v, l, hv, h1, h2, h3, _⟩ := open_cell2 (E := E) (R := fun a => 0 < W.heap.size → R a) (e' := e') ht hC dec hpos hf
  have hv : Value.slice a0 len0 cap0 = v := by simpa [Value.cells] using hv
  subst hv
  refine ⟨l, h1, fun a ha => h2 a ha ?_, h3⟩
  cases l with
  | nil => simp at ha
  | cons x l =>
    rcases h1.1 with ⟨h, _⟩ | ⟨h, _⟩ | ⟨b, o, c, _, _, hb, _⟩
    · cases h
    · cases h
    · exact Nat.lt_of_le_of_lt (Nat.zero_le _) hb

theorem dec_u8 {e : TypeId} (he : P.underlying e = some (.int .u8)) {cs : List Value} {n : Nat} {y : DataW H × List MemPlace} (h : DataW.trod enc P W 0 (fun _ => true) true n e cs = some y) (hl : cs.length = EB.w) {Q : Prop} :
    ∃ a : UInt8, cs.map (conv2 W.heap.size) = EB.enc a ∧ (Q → True) := by
  obtain ⟨c, rfl⟩ : ∃ c, cs = [c] := by
    match cs, hl with
    | [c], _ => exact ⟨_, rfl⟩
  obtain ⟨i, rfl, hw⟩ := dec_int he h
  have hw : 0 ≤ i ∧ i < 256 := by
    simp [Lit.wf, IntKind.min, IntKind.max, IntKind.signed, IntKind.bits] at hw
    omega
  refine ⟨UInt8.ofNat i.toNat, ?_, fun _ => trivial⟩
  show [Value.int .u8 i] = [byteCell (UInt8.ofNat i.toNat)]
  unfold byteCell
  have : i.toNat < 256 := by omega
  rw [UInt8.toNat_ofNat_of_lt' this]
  congr 2
  omega
end

end Go.Proofs.Ytehnchfnhbmkdaa.Eng

/-
  Chapter 48: BackupCuts.
  Conditions: none. By an AI agent.
-/
set_option maxRecDepth 10000
set_option linter.unusedSimpArgs false
set_option linter.unusedVariables false
namespace Go.Proofs.Ytehnchfnhbmkdaa
open Go Eng

theorem PcsOf.swap {l : List UInt8} {size : Nat} {ls : List (List UInt8)} (h : PcsOf l size ls) {i j : Nat} (hi : i < ls.length) (hj : j < ls.length) : PcsOf l size ((ls.set i ls[j]).set j ls[i]) := by
  refine ⟨fun p hp => ?_, fun p hp => ?_⟩
  · rcases List.mem_or_eq_of_mem_set hp with hp | rfl
    · rcases List.mem_or_eq_of_mem_set hp with hp | rfl
      · exact h.1 p hp
      · exact h.1 _ (List.getElem_mem _)
    · exact h.1 _ (List.getElem_mem _)
  · obtain ⟨k, hk, e⟩ := List.getElem_of_mem (h.2 p hp)
    by_cases k1 : k = i
    · subst k1
      refine List.mem_iff_getElem.2 ⟨j, by simpa using hj, ?_⟩
      simp [e]
    · by_cases k2 : k = j
      · subst k2
        refine List.mem_iff_getElem.2 ⟨i, by simpa using hi, ?_⟩
        rw [List.getElem_set_ne (by omega)]
        simp [e]
      · refine List.mem_iff_getElem.2 ⟨k, by simpa using hk, ?_⟩
        rw [List.getElem_set_ne (by omega), List.getElem_set_ne (by omega)]
        exact e
theorem PcsOf.more {l : List UInt8} {size : Nat} {ls : List (List UInt8)} (h : PcsOf l size ls) {i : Nat} (hi : i < ls.length) : PcsOf l size (ls ++ [ls[i]]) := by
  refine ⟨fun p hp => ?_, fun p hp => by simp [h.2 p hp]⟩
  rcases List.mem_append.1 hp with hp | hp
  · exact h.1 p hp
  · simp at hp; subst hp; exact h.1 _ (List.getElem_mem _)
theorem PcsOf.pos {l : List UInt8} {size : Nat} {ls : List (List UInt8)} (h : PcsOf l size ls) : 0 < ls.length := by
  have hpos : 0 < nP l size := by unfold nP; omega
  exact List.length_pos_of_mem (h.2 _ (mem_pcsTo.2 ⟨0, hpos, rfl⟩))

theorem blockOf_lt {H : AHeap} {v : Value} {l : List UInt8} (r : BR H v l) {b : Nat} (h : blockOf v = some b) : b < H.n := by
  rcases r.2 with h' | ⟨b', o, n', code, h', _, _, h3⟩
  · rw [h'] at h; cases h
  · rw [h'] at h; cases h; exact h3

/-- A copy of an element. -/
theorem copyB {H : AHeap} {y : Value} {l : List UInt8} (r : BR H y l) (hl : l.length ≤ 1000000000) : ∃ a n c H', app T.uint8 1 1 (.slice none 0 0) (srcS 1 y H) H = some (.slice a n c, H') ∧ Own EB H' T.uint8 (.slice a n c) l ∧ Still H H' ∧ ∀ b, blockOf (.slice a n c) = some b → H.n ≤ b := by
  have hnil : Own EB H T.uint8 (.slice none 0 0) [] := .inl ⟨rfl, rfl⟩
  obtain ⟨v', H', e1, e2, e3, e4⟩ := hnil.appA l (sz := 1) (bytes := 1) rfl (by simp; omega) (by simp; omega) (r.1.src (sz := 1) rfl)
  rw [List.nil_append] at e2
  obtain ⟨a, c, rfl⟩ := e2.rd.shape
  refine ⟨a, _, c, H', e1, e2, e3.mono (fun b _ h => by unfold OnlyOf at h; cases h), fun b h => ?_⟩
  rcases e4 with e4 | e4
  · rw [e4] at h; cases h
  · rw [e4] at h; cases h; exact Nat.le_refl _

/-- One round. -/
theorem r_Cuts (a l : List UInt8) (size : Nat) (va vl : Value) (H0 : AHeap) (hl : BR H0 vl l) (hl3 : l.length ≤ 300) (i : Nat) (hi : i < l.length) (H : AHeap) (out : Value) (ls : List (List UInt8)) (hs : Still H0 H) (ro : OwnS H out ls) (hb : ∀ b, blockOf out = some b → H0.n ≤ b) (hp : PcsOf a size ls) (hsz : ∀ p ∈ ls, p.length ≤ 400) (hll : ls.length ≤ 600) :
    ∃ out' H' ls', (∀ K : K, l_law_BackupCuts_0 va vl out (.int .i64 (i : Int)) H (blkK [0, 7] 0 K) = l_law_BackupCuts_0 va vl out' (.int .i64 ((i + 1 : Nat) : Int)) H' (blkK [0, 7] 0 K)) ∧
      Still H0 H' ∧ OwnS H' out' ls' ∧ (∀ b, blockOf out' = some b → H0.n ≤ b) ∧ PcsOf a size ls' ∧ (∀ p ∈ ls', p.length ≤ 400) ∧ ls'.length ≤ 600 := by
  have hpos := hp.pos
  have hlt : (i : Int) < (l.length : Int) := by omega
  have hlen := (hl.still hs).1.lenS
  have hlo := ro.len
  obtain ⟨bc, oc, ic, cc, _, _⟩ := (hl.still hs).1.byte hi
  obtain ⟨c, hc⟩ : ∃ c, l[i] = c := ⟨_, rfl⟩
  rw [hc] at cc
  obtain ⟨ia, hia⟩ : ∃ k, i % ls.length = k := ⟨_, rfl⟩
  obtain ⟨ib, hib⟩ : ∃ k, c.toNat % ls.length = k := ⟨_, rfl⟩
  have la : ia < ls.length := by rw [← hia]; exact Nat.mod_lt _ hpos
  have lb : ib < ls.length := by rw [← hib]; exact Nat.mod_lt _ hpos
  have q1 : ∀ ox oy, xbin Try.prog .rem T.int ox oy (.int .i64 (i : Int)) (.int .i64 (ls.length : Int)) = some (.int .i64 (ia : Int)) := fun ox oy => by rw [← hia]; exact remN hpos
  have q2 : ∀ ox oy, xbin Try.prog .rem T.int ox oy (.int .i64 (c.toNat : Int)) (.int .i64 (ls.length : Int)) = some (.int .i64 (ib : Int)) := fun ox oy => by rw [← hib]; exact remN hpos
  have hw : IntKind.wrap .i64 (c.toNat : Int) = (c.toNat : Int) := wrap_i64 ⟨by omega, by have := u8_lt c; omega⟩
  -- the two elements
  obtain ⟨bb, ob, _, yb, i2, k2, k3, c2, r2, f2, _⟩ := ro.set lb (x := .slice none 0 0) (l := []) RdS.nil (fun b h => by cases h)
  obtain ⟨ba, oa, ka, ya, i1, k4, k5, c1, r1, f1, w1, o1, fr1⟩ := ro.set la r2 f2
  obtain ⟨H1, hH1⟩ : ∃ H1, H.set ba ka = H1 := ⟨_, rfl⟩
  rw [hH1] at o1 fr1
  obtain ⟨bb', ob', kb, _, i3, k6, k7, _, _, _, w2, o2, fr2⟩ := o1.set (i := ib) (by simpa using lb) (r1.keep fr1 f1) f1
  rw [i2] at i3
  cases i3
  obtain ⟨H2, hH2⟩ : ∃ H2, H1.set bb kb = H2 := ⟨_, rfl⟩
  rw [hH2] at o2 fr2
  have hp2 := hp.swap la lb
  have s2 : Still H0 H2 := (hs.then fr1 fun b hb1 h => by unfold OnlyOf at h; have := hb b h; omega).then fr2 fun b hb1 h => by unfold OnlyOf at h; have := hb b h; omega
  obtain ⟨bc', oc', ic', cc', _, _⟩ := (hl.still s2).1.byte hi
  rw [ic] at ic'
  cases ic'
  rw [hc] at cc'
  have hck : okV (some true) none H H1 H H = true := okV_none (.inl (Nat.le_refl _))
  have hlo2 := o2.len
  have hsz2 : ∀ p ∈ (ls.set ia ls[ib]).set ib ls[ia], p.length ≤ 400 := fun p hp => by
    rcases List.mem_or_eq_of_mem_set hp with hp | rfl
    · rcases List.mem_or_eq_of_mem_set hp with hp | rfl
      · exact hsz p hp
      · exact hsz _ (List.getElem_mem _)
    · exact hsz _ (List.getElem_mem _)
  have hl2 : ((ls.set ia ls[ib]).set ib ls[ia]).length = ls.length := by simp
  generalize (ls.set ia ls[ib]).set ib ls[ia] = ls2 at o2 hp2 hlo2 hsz2 hl2
  rw [hl2] at hlo2
  have fin : ∀ (_ : ¬ (200 ≤ (c.toNat : Int) ∧ (ls.length : Int) < 600)), ∀ K : K, l_law_BackupCuts_0 va vl out (.int .i64 (i : Int)) H (blkK [0, 7] 0 K) = l_law_BackupCuts_0 va vl out (.int .i64 ((i + 1 : Nat) : Int)) H2 (blkK [0, 7] 0 K) := fun hn K => by
    by_cases h200 : 200 ≤ (c.toNat : Int)
    · have h6 : ¬ (ls.length : Int) < 600 := fun h => hn ⟨h200, h⟩
      rw [r_law_BackupCuts_0, Int.natCast_add]
      simp (disch := first | with_reducible rfl | assumption | omega | rfl | (simp only [go_sem]; first | done | omega)) only [go_sem, ↓reduceIte, reduceCtorEq, Nat.reduceEqDiff, Nat.reduceAdd, Nat.reduceSub, Nat.reduceMul, Nat.reduceDiv, Nat.reduceMod, Nat.reduceLeDiff, Nat.reduceLT, Nat.reduceBEq, Int.reduceEq, Int.reduceBEq, Int.reduceBNe, Int.reduceLT, Int.reduceLE, Int.reduceAdd, Int.reduceSub, Int.reduceNeg, Int.reduceToNat, Int.reducePow, Nat.reducePow, Int.reduceMul, Int.reduceDiv, ↓s_law_BackupCuts_b0, hlen, hlt, hlo, q1, ic, cc, x_uint8_int, hw, q2, i2, c2, i1, c1, w1, hH1, w2, hH2, hck, cc', h200, hlo2, h6]
    · rw [r_law_BackupCuts_0, Int.natCast_add]
      simp (disch := first | with_reducible rfl | assumption | omega | rfl | (simp only [go_sem]; first | done | omega)) only [go_sem, ↓reduceIte, reduceCtorEq, Nat.reduceEqDiff, Nat.reduceAdd, Nat.reduceSub, Nat.reduceMul, Nat.reduceDiv, Nat.reduceMod, Nat.reduceLeDiff, Nat.reduceLT, Nat.reduceBEq, Int.reduceEq, Int.reduceBEq, Int.reduceBNe, Int.reduceLT, Int.reduceLE, Int.reduceAdd, Int.reduceSub, Int.reduceNeg, Int.reduceToNat, Int.reducePow, Nat.reducePow, Int.reduceMul, Int.reduceDiv, ↓s_law_BackupCuts_b0, hlen, hlt, hlo, q1, ic, cc, x_uint8_int, hw, q2, i2, c2, i1, c1, w1, hH1, w2, hH2, hck, cc', h200]
  by_cases hn : 200 ≤ (c.toNat : Int) ∧ (ls.length : Int) < 600
  · obtain ⟨h200, h6⟩ := hn
    obtain ⟨bx, ox, _, yx, i4, k8, k9, c4, r4, f4, _⟩ := o2.set (i := ia) (by omega) (x := .slice none 0 0) (l := []) RdS.nil (fun b h => by cases h)
    rw [i1] at i4
    cases i4
    have hlx : (ls2[ia]'(by omega)).length ≤ 400 := hsz2 _ (List.getElem_mem _)
    obtain ⟨a3, n3, c3, H3, a3e, o3, s3, b3⟩ := copyB r4 (by omega)
    obtain ⟨v4, H4, a4, o4, s4, b4⟩ := (o2.still s3).app o3.sl (fun b hb1 h => by
      unfold OnlyOf at h
      have h1 := b3 b hb1
      have h2 : b < H2.n := by obtain ⟨sl, k, _⟩ := o2; exact k.blk h
      omega) (by omega)
    have hbo : ∀ b, blockOf v4 = some b → H0.n ≤ b := fun b h => by
      rcases b4 with h1 | ⟨b', h1, h2⟩
      · rw [h1] at h; exact hb b h
      · rw [h1] at h; cases h; have := s3.n; have := s2.n; omega
    refine ⟨v4, H4, _, fun K => ?_, (s2.then s3 fun b _ h => h.elim).then s4 fun b hb1 h => by unfold OnlyOf at h; have := hb b h; omega, o4, hbo, hp2.more (by omega), fun p hp => ?_, by simp; omega⟩
    · rw [r_law_BackupCuts_0, Int.natCast_add]
      simp (disch := first | with_reducible rfl | assumption | omega | rfl | (simp only [go_sem]; first | done | omega)) only [go_sem, ↓reduceIte, reduceCtorEq, Nat.reduceEqDiff, Nat.reduceAdd, Nat.reduceSub, Nat.reduceMul, Nat.reduceDiv, Nat.reduceMod, Nat.reduceLeDiff, Nat.reduceLT, Nat.reduceBEq, Int.reduceEq, Int.reduceBEq, Int.reduceBNe, Int.reduceLT, Int.reduceLE, Int.reduceAdd, Int.reduceSub, Int.reduceNeg, Int.reduceToNat, Int.reducePow, Nat.reducePow, Int.reduceMul, Int.reduceDiv, ↓s_law_BackupCuts_b0, hlen, hlt, hlo, q1, ic, cc, x_uint8_int, hw, q2, i2, c2, i1, c1, w1, hH1, w2, hH2, hck, cc', h200, hlo2, h6, c4, a3e, a4]
    · rcases List.mem_append.1 hp with hp | hp
      · exact hsz2 p hp
      · simp at hp; subst hp; exact hlx
  · exact ⟨out, H2, ls2, fin hn, s2, o2, hb, hp2, hsz2, by omega⟩

theorem l_Cuts (a l : List UInt8) (size : Nat) (va vl : Value) (H0 : AHeap) (hl : BR H0 vl l) (hl3 : l.length ≤ 300) : ∀ (m i : Nat) (_ : i + m = l.length) (H : AHeap) (out : Value) (ls : List (List UInt8)) (_ : Still H0 H) (_ : OwnS H out ls) (_ : ∀ b, blockOf out = some b → H0.n ≤ b) (_ : PcsOf a size ls) (_ : ∀ p ∈ ls, p.length ≤ 400) (_ : ls.length ≤ 600),
    ∃ out' H' ls', (∀ K : K, l_law_BackupCuts_0 va vl out (.int .i64 (i : Int)) H (blkK [0, 7] 0 K) = K .normal [(0, va), (7, out')] H') ∧ Still H0 H' ∧ OwnS H' out' ls' ∧ PcsOf a size ls' ∧ (∀ p ∈ ls', p.length ≤ 400) ∧ ls'.length ≤ 600
  | 0, i, him, H, out, ls, hs, ro, hb, hp, hsz, hll => by
    have hlt : ¬ (i : Int) < (l.length : Int) := by omega
    have hlen := (hl.still hs).1.lenS
    refine ⟨out, H, ls, fun K => ?_, hs, ro, hp, hsz, hll⟩
    rw [r_law_BackupCuts_0]
    simp (disch := first | with_reducible rfl | assumption | omega | rfl | (simp only [go_sem]; first | done | omega)) only [go_sem, ↓reduceIte, reduceCtorEq, Nat.reduceEqDiff, Nat.reduceAdd, Nat.reduceSub, Nat.reduceMul, Nat.reduceDiv, Nat.reduceMod, Nat.reduceLeDiff, Nat.reduceLT, Nat.reduceBEq, Int.reduceEq, Int.reduceBEq, Int.reduceBNe, Int.reduceLT, Int.reduceLE, Int.reduceAdd, Int.reduceSub, Int.reduceNeg, Int.reduceToNat, Int.reducePow, Nat.reducePow, Int.reduceMul, Int.reduceDiv, ↓s_law_BackupCuts_b0, hlen, hlt]
  | m + 1, i, him, H, out, ls, hs, ro, hb, hp, hsz, hll => by
    obtain ⟨out1, H1, ls1, e1, s1, o1, b1, p1, z1, n1⟩ := r_Cuts a l size va vl H0 hl hl3 i (by omega) H out ls hs ro hb hp hsz hll
    obtain ⟨out2, H2, ls2, e2, s2, o2, p2, z2, n2⟩ := l_Cuts a l size va vl H0 hl hl3 m (i + 1) (by omega) H1 out1 ls1 s1 o1 b1 p1 z1 n1
    exact ⟨out2, H2, ls2, fun K => (e1 K).trans (e2 K), s2, o2, p2, z2, n2⟩

theorem q_BackupCuts (a l : List UInt8) (va vl : Value) (n : Int) (H : AHeap) (ha : BR H va a) (hl : BR H vl l) : ∃ H', CC F.law_BackupCuts [va, .int .i64 n, vl] H = some (.bool true, H') := by
  have hla := ha.1.lenS
  have hll := hl.1.lenS
  by_cases h1 : 300 < (a.length : Int)
  · refine any_of (H1 := H) (d_law_BackupCuts _ _ _ H ?_)
    simp (disch := first | with_reducible rfl | assumption | omega | rfl | (simp only [go_sem]; first | done | omega)) only [go_sem, ↓reduceIte, reduceCtorEq, Nat.reduceEqDiff, Nat.reduceAdd, Nat.reduceSub, Nat.reduceMul, Nat.reduceDiv, Nat.reduceMod, Nat.reduceLeDiff, Nat.reduceLT, Nat.reduceBEq, Int.reduceEq, Int.reduceBEq, Int.reduceBNe, Int.reduceLT, Int.reduceLE, Int.reduceAdd, Int.reduceSub, Int.reduceNeg, Int.reduceToNat, Int.reducePow, Nat.reducePow, Int.reduceMul, Int.reduceDiv, ↓s_law_BackupCuts, hla, h1]
  by_cases h2 : 300 < (l.length : Int)
  · refine any_of (H1 := H) (d_law_BackupCuts _ _ _ H ?_)
    simp (disch := first | with_reducible rfl | assumption | omega | rfl | (simp only [go_sem]; first | done | omega)) only [go_sem, ↓reduceIte, reduceCtorEq, Nat.reduceEqDiff, Nat.reduceAdd, Nat.reduceSub, Nat.reduceMul, Nat.reduceDiv, Nat.reduceMod, Nat.reduceLeDiff, Nat.reduceLT, Nat.reduceBEq, Int.reduceEq, Int.reduceBEq, Int.reduceBNe, Int.reduceLT, Int.reduceLE, Int.reduceAdd, Int.reduceSub, Int.reduceNeg, Int.reduceToNat, Int.reducePow, Nat.reducePow, Int.reduceMul, Int.reduceDiv, ↓s_law_BackupCuts, hla, h1, hll, h2]
  by_cases h3 : n < 1
  · have hq := q_cuts_arg va n H (.inl h3)
    refine any_of (H1 := H) (d_law_BackupCuts _ _ _ H ?_)
    simp (disch := first | with_reducible rfl | assumption | omega | rfl | (simp only [go_sem]; first | done | omega)) only [go_sem, ↓reduceIte, reduceCtorEq, Nat.reduceEqDiff, Nat.reduceAdd, Nat.reduceSub, Nat.reduceMul, Nat.reduceDiv, Nat.reduceMod, Nat.reduceLeDiff, Nat.reduceLT, Nat.reduceBEq, Int.reduceEq, Int.reduceBEq, Int.reduceBNe, Int.reduceLT, Int.reduceLE, Int.reduceAdd, Int.reduceSub, Int.reduceNeg, Int.reduceToNat, Int.reducePow, Nat.reducePow, Int.reduceMul, Int.reduceDiv, ↓s_law_BackupCuts, hla, h1, hll, h2, h3, enterK_eq hq]
  by_cases h4 : 65536 < n
  · have hq := q_cuts_arg va n H (.inr h4)
    refine any_of (H1 := H) (d_law_BackupCuts _ _ _ H ?_)
    simp (disch := first | with_reducible rfl | assumption | omega | rfl | (simp only [go_sem]; first | done | omega)) only [go_sem, ↓reduceIte, reduceCtorEq, Nat.reduceEqDiff, Nat.reduceAdd, Nat.reduceSub, Nat.reduceMul, Nat.reduceDiv, Nat.reduceMod, Nat.reduceLeDiff, Nat.reduceLT, Nat.reduceBEq, Int.reduceEq, Int.reduceBEq, Int.reduceBNe, Int.reduceLT, Int.reduceLE, Int.reduceAdd, Int.reduceSub, Int.reduceNeg, Int.reduceToNat, Int.reducePow, Nat.reducePow, Int.reduceMul, Int.reduceDiv, ↓s_law_BackupCuts, hla, h1, hll, h2, h3, h4, enterK_eq hq]
  obtain ⟨k, rfl⟩ : ∃ k : Nat, n = k := ⟨n.toNat, by omega⟩
  have hk1 : 1 ≤ k := by omega
  have hk2 : k ≤ 65536 := by omega
  have hnp : nP a k ≤ 300 := by
    unfold nP
    have : (a.length + k - 1) / k ≤ 300 := by
      by_cases h0 : a.length = 0
      · rw [h0, Nat.div_eq_of_lt (by omega)]; omega
      · refine Nat.le_trans (Nat.div_le_of_le_mul (n := a.length) ?_) (by omega)
        have e1 : k * a.length = (k - 1) * a.length + a.length := by
          obtain ⟨j, rfl⟩ : ∃ j, k = j + 1 := ⟨k - 1, by omega⟩
          rw [Nat.add_mul]; simp
        have e2 : (k - 1) * 1 ≤ (k - 1) * a.length := Nat.mul_le_mul_left _ (by omega)
        omega
    omega
  obtain ⟨v1, H1, m1, o1, s1, b1⟩ := q_pieces a k va H ha (by omega) hk1 hk2 (by omega)
  obtain ⟨a2, n2, c2, H2, m2, o2, s2, b2⟩ := copyB (ha.still s1) (by omega)
  have ha2 := (ha.still s1).still s2
  have hq := q_cuts a (.slice a2 n2 c2) v1 k H2 o2.sl hk1 hk2 (by omega) (by omega) (o1.still s2).rds
  have st1 := BR.str o2.sl
  have st2 := BR.str ha2
  have hsz : ∀ p ∈ pcsL a k, p.length ≤ 400 := fun p hp => by
    obtain ⟨i, hi, rfl⟩ := mem_pcsTo.1 hp
    simp [pieceL, be_length, chunkL]
    omega
  obtain ⟨v3, H3, ls3, e3, s3, o3, p3, z3, n3⟩ := l_Cuts a l k va vl H hl (by omega) l.length 0 (by omega) H2 v1 (pcsL a k) (s1.trans s2) (o1.still s2) b1 PcsOf.self hsz (by rw [pcsL_length]; omega)
  · have e3 : ∀ K : K, l_law_BackupCuts_0 va vl v1 (.int .i64 0) H2 (blkK [0, 7] 0 K) = K .normal [(0, va), (7, v3)] H3 := e3
    have hsum : sumP ls3 ≤ 0 + (ls3.length : Int) * (400 : Nat) := (sum_le (M := 400) ls3 0 z3).1
    have hj := q_joins ls3 v3 va a 0 H3 o3.rds (ha.still s3) (by omega) (fun p hp => by have := z3 p hp; omega) (by
      have : (ls3.length : Int) * (400 : Nat) ≤ 600 * 400 := by omega
      omega)
    rw [jn_pcs hk1 (by omega) p3, decide_eq_true rfl] at hj
    refine any_of (H1 := H3) (d_law_BackupCuts _ _ _ H ?_)
    simp (disch := first | with_reducible rfl | assumption | omega | rfl | (simp only [go_sem]; first | done | omega)) only [go_sem, ↓reduceIte, reduceCtorEq, Nat.reduceEqDiff, Nat.reduceAdd, Nat.reduceSub, Nat.reduceMul, Nat.reduceDiv, Nat.reduceMod, Nat.reduceLeDiff, Nat.reduceLT, Nat.reduceBEq, Int.reduceEq, Int.reduceBEq, Int.reduceBNe, Int.reduceLT, Int.reduceLE, Int.reduceAdd, Int.reduceSub, Int.reduceNeg, Int.reduceToNat, Int.reducePow, Nat.reducePow, Int.reduceMul, Int.reduceDiv, ↓s_law_BackupCuts, hla, h1, hll, h2, h3, h4, enterK_eq m1, m2, enterK_eq hq, st1, st2, bl_mk, e3, enterK_eq hj]

theorem run_BackupCuts (W : World) (v : Value) (a : List UInt8) (ra : RdS EB T.uint8 (absHeap2 W) v a) (_ : ∀ x, x ∈ a → True) (_ : a.length ≤ maxLen) (n : Int) (_ : (Lit.int .i64 n).wf = true) (w : Value) (l : List UInt8) (rl : RdS EB T.uint8 (absHeap2 W) w l) (_ : ∀ x, x ∈ l → True) (_ : l.length ≤ maxLen) :
    ∃ k H', dCall Try.prog prims1 hints k F.law_BackupCuts [v, .int .i64 n, w] (absHeap2 W) = some (.bool true, H') := by
  obtain ⟨H', h⟩ := q_BackupCuts a l v w n (absHeap2 W) ra rl
  obtain ⟨k, h⟩ := D_run h
  exact ⟨k, _, h⟩
theorem decB {W : World} {H : Type} {enc : TypeId × Value → H} {cs : List Value} {n : Nat} {y : DataW H × List MemPlace} (h : DataW.trod enc Try.prog W 0 (fun _ => true) true n T.uint8 cs = some y) (hl : cs.length = EB.w) : ∃ a, cs.map (conv2 W.heap.size) = EB.enc a ∧ (0 < W.heap.size → True) := dec_u8 Try.underlying5 h hl

end Go.Proofs.Ytehnchfnhbmkdaa

/-
  The law BackupCuts: for every input it returns true, and its input reads as it did.
  Conditions: none. By an AI agent.
-/
namespace Go.Proofs.Ytehnchfnhbmkdaa.backupCuts
open Go.ChangeShapes Go.WideShapes Go.ChangeAt Go.RowKit
open Go.ChangeMaps (open_string shut_string)
set_option linter.unusedVariables false
theorem own : ownKnob Try.prog.godebug = none := by kernel_rfl
theorem laidOut : laidOutB Try.prog = true := by kernel_rfl
set_option maxRecDepth 100000 in
theorem lifted (os : Os) (started : os.Started) (H : Type) (enc : TypeId × Value → H) :
    ReturnsInHanded {} Try.checked os 3 .any (Rows.backupCutsSpec.pre6 enc Try.prog Try.f3 Rows.backupCutsRow.domain false) (Rows.backupCutsSpec.post enc Try.prog Try.f3 false true false false) := by
  refine returnsInHanded_of_change_sized (C := Try.checked) own started (by kernel_rfl) Try.func3
    (ChangeSpec.witness6 (enc := enc) (C := Try.checked) false ⟨#[], #[.slice none 0 0, .int .i64 0, .slice none 0 0], []⟩ 8 (by kernel_rfl) (by kernel_rfl) (by kernel_rfl) (by kernel_rfl)) ?_
  intro W base args ds gs before hval0 hW hcnd hsz0 _
  have hsz : (DataW.weightsEach Try.prog (Try.f3.params.toList ++ Rows.backupCutsSpec.plain.varTypes Try.prog) (ds ++ gs)).all (· ≤ reachBytes) = true := hsz0
  have hval : ∀ (j : Nat) t v, Try.f3.params[j]? = some t → args[j]? = some v → Value.okWide Try.prog W .any base t v := hval0
  have hW' := hW
  obtain ⟨p, q, hA0, hV, rfl, hfz, hnd⟩ := hW
  have hA : DataW.TrodAll enc Try.prog W 0 (fun _ => true) true Try.f3.params.toList args.toList ds p := hA0
  rw [Try.params3] at hA hval hsz
  obtain ⟨v0, vs0, d0, ds0, p0, q0, hargs, rfl, rfl, h0, r0⟩ := trodAll_cons hA
  obtain ⟨v1, vs1, d1, ds1, p1, q1, rfl, rfl, rfl, h1, r1⟩ := trodAll_cons r0
  obtain ⟨v2, vs2, d2, ds2, p2, q2, rfl, rfl, rfl, h2, r2⟩ := trodAll_cons r1
  obtain ⟨rfl, rfl, rfl⟩ := trodAll_nil r2
  obtain rfl : args = #[v0, v1, v2] := by cases args; simp_all
  obtain ⟨rfl, rfl⟩ := trodVars_none hV
  have k0 := h0
  have lt0 : ∀ x ∈ p0, x.block < W.heap.size := by obtain ⟨m, hm⟩ := k0; exact DataW.trod_lt m _ _ _ hm
  obtain ⟨l0, rd0, all0, len0⟩ := Eng.open_rd2 (t := 22) (e' := 5) Try.underlying22 (by kernel_rfl) (fun cs n y h hl => decB h hl) (hval 0 22 v0 rfl rfl) k0
  obtain ⟨a1, rfl, rfl, rfl, w1⟩ := open_int Try.underlying3 (hval 1 3 v1 rfl rfl) h1
  have k2 := h2
  have lt2 : ∀ x ∈ p2, x.block < W.heap.size := by obtain ⟨m, hm⟩ := k2; exact DataW.trod_lt m _ _ _ hm
  obtain ⟨l2, rd2, all2, len2⟩ := Eng.open_rd2 (t := 22) (e' := 5) Try.underlying22 (by kernel_rfl) (fun cs n y h hl => decB h hl) (hval 2 22 v2 rfl rfl) k2
  refine (Eng.law_calls2 (args := #[v0, .int .i64 a1, v2]) prims1_ok mixed (fun _ hg => absurd hg List.not_mem_nil) (run_BackupCuts W (Eng.convA2 W.heap.size v0) l0 rd0 all0 len0 a1 w1 (Eng.convA2 W.heap.size v2) l2 rd2 all2 len2)).mono fun e W' ⟨he, bel⟩ => ?_
  subst he
  exact ⟨_, rfl, _, _, _, [], _, [], hW', trodAll_mk1 (shut_bool Try.underlying4 _), (trodAll_cons_mk (Below.trod laidOut (by kernel_rfl) (of_decide_eq_true (by kernel_rfl)) k0 bel lt0) (trodAll_cons_mk (shut_int Try.underlying3 w1) (trodAll_cons_mk (Below.trod laidOut (by kernel_rfl) (of_decide_eq_true (by kernel_rfl)) k2 bel lt2) trodAll_mk0))), rfl, bel.frame _, fun h => by cases h⟩

theorem over : Rows.backupCutsRow.holds Try.pinned (OpenSpec.ofChange Rows.backupCutsSpec) :=
  OpenClaim.holds_of_wide 3 Try.f3 rfl rfl rfl rfl rfl rfl rfl ⟨rfl, rfl, rfl, rfl, rfl⟩ rfl rfl rfl rfl rfl (by kernel_rfl) Try.func3 (by kernel_rfl)
    (of_decide_eq_true (by kernel_rfl)) (by unfold Func.isWrapper; first | (rw [if_pos (by decide +kernel)]; kernel_rfl) | (rw [if_neg (by decide +kernel)]; exact ⟨rfl, rfl⟩))
    (fun os started H enc _ => lifted os started H enc)
theorem proved : Rows.BackupCutsSaid := over
#print axioms proved
end Go.Proofs.Ytehnchfnhbmkdaa.backupCuts
namespace Go.Proofs.Ytehnchfnhbmkdaa
/-- The row, under a short name, for the claim. -/
theorem backupCuts_holds : Rows.BackupCutsSaid := backupCuts.proved
end Go.Proofs.Ytehnchfnhbmkdaa
