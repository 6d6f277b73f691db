/-
  The engine, contracts and laws: 17 texts in one (merge.py): Jk Jl Jm Jn Jo Jp ShJobsHolds DsJobsHolds DxJobsHolds La Lb Lc Ld Le Lf Lg LawJobsHolds.
  Conditions: none. By an AI agent.
-/
import Derived.Test.YtmiinbhnfojnbaaDoorLawJobsHoldsQ2
import Derived.KernelRfl
import Derived.Test.YtmiinbhnfojnbaaDoorChecked
import Derived.Test.YtmiinbhnfojnbaaDoorRows
import Derived.Test.YtmiinbhnfojnbaaDoorCards
import Derived.Test.YtmiinbhnfojnbaaDoorTie
import Derived.WalkKit
import Derived.ProofKit
import Derived.OpenShut
import Derived.ShutString
import Derived.ChangeOld
import Derived.Below
import Derived.SizedLaws
import Derived.ChangeArms
import Derived.Carry
import Derived.Lay
import Derived.PinnedBridge
import Derived.LaidOnce
import Derived.SevenTiedAt
import Derived.HandedShaped
import Derived.Shelf.Vars
import Derived.Stop.LaidErr
set_option linter.unusedSimpArgs false
set_option linter.unusedVariables false
set_option linter.unusedSectionVars false
set_option maxRecDepth 10000
namespace Go.Proofs.YtmiinbhnfojnbaaDoor
open Go Eng
attribute [local congr] YX YZ YR
theorem fnd_rep_ne {j : Jb} {k : Int} (h : k ≠ j.id) : ∀ (A : List Jb), fnd (Vz A j) k = fnd A k
  | [] => rfl
  | a :: A => by
    have ih := fnd_rep_ne h A
    unfold fnd Vz at ih ⊢
    rw [List.map_cons, List.find?_cons, List.find?_cons]
    by_cases h1 : a.id = j.id
    · rw [if_pos h1, decide_eq_false (fun e => h e.symm), decide_eq_false (fun e => h (by rw [← e, h1]))]
      exact ih
    · rw [if_neg h1]
      by_cases h2 : a.id = k
      · rw [decide_eq_true h2]
      · rw [decide_eq_false h2]
        exact ih
theorem setJ_rep {A : List Jb} {j : Jb} (h : (fnd A j.id).isSome = true) : setJ A j = Vz A j := by unfold setJ; rw [if_pos h]
theorem QI.rep {A : List Jb} {tries last now : Int} (i : QI A tries last now) {j : Jb} (hj : JOk j) (h : (fnd A j.id).isSome = true) (hw : j.state = 1 → j.tries < tries) : QI (Vz A j) tries last now :=
  ⟨i.a.rep hj h, i.t, i.l, i.n, fun a ha hs => by
    rcases (ZU i.a.inc h).1 ha with rfl | h1
    · exact hw hs
    · exact i.w a h1.1 hs⟩
theorem q_qrep (bq bm bk : Nat) (A : List Jb) (tries last now : Int) (j : Jb) (H : AHeap) (ok : Ok H) (r : QR H bq bm bk A tries last now) (i : QI A tries last now) (hj : JOk j) (h : (fnd A j.id).isSome = true) :
    ∃ H', CC F.jobs_Queue_set [.pointer (some ⟨bq, 0, none⟩), .agg #[.int .i64 j.id, .int .i64 j.prio, .string j.body, .int .i64 j.state, .int .i64 j.tries, .int .i64 j.who, .int .i64 j.til]] H = some (.int .i64 0, H') ∧ QR H' bq bm bk (Vz A j) tries last now ∧ UpQ H bq bm bk H' := by
  have := q_qset bq bm bk A tries last now j H ok r i.a (by have := i.len; omega) hj (by rw [setJ_rep h]; exact i.a.rep hj h)
  rw [setJ_rep h] at this
  exact this
def Wk (tries : Int) (j : Jb) : Jb := ⟨j.id, j.prio, j.body, if tries ≤ j.tries then 3 else 1, j.tries, 0, 0⟩
theorem backJ_ok {tries : Int} {j : Jb} (h : JOk j) : JOk (Wk tries j) :=
  ⟨h.id, h.prio, h.body, by show 1 ≤ (if _ then (3 : Int) else 1) ∧ (if _ then (3 : Int) else 1) ≤ 3; split <;> omega, h.tries, by show (0 : Int) ≤ 0 ∧ (0 : Int) ≤ 1000; omega, by show (0 : Int) ≤ 0 ∧ (0 : Int) ≤ 1099511627776; omega, fun _ => rfl⟩
theorem backJ_w {tries : Int} {j : Jb} (h : (Wk tries j).state = 1) : (Wk tries j).tries < tries := by
  unfold Wk at h ⊢
  dsimp only at h ⊢
  split at h
  · cases h
  · omega
theorem Ok.set {H H1 : AHeap} {b : Nat} {k : Blk} (ok : Ok H) (h : H.set b k = H1) : Ok H1 := ok.fr (YG h).1
theorem q_Qback (bq bm bk : Nat) (A : List Jb) (tries last now : Int) (j : Jb) (H : AHeap) (ok : Ok H) (r : QR H bq bm bk A tries last now) (i : QI A tries last now) (hj : JOk j) (h : (fnd A j.id).isSome = true) :
    ∃ H', CC F.jobs_Queue_back [.pointer (some ⟨bq, 0, none⟩), .agg #[.int .i64 j.id, .int .i64 j.prio, .string j.body, .int .i64 j.state, .int .i64 j.tries, .int .i64 j.who, .int .i64 j.til]] H = some (.int .i64 0, H') ∧ QR H' bq bm bk (Vz A (Wk tries j)) tries last now ∧ QI (Vz A (Wk tries j)) tries last now ∧ UpQ H bq bm bk H' := by
  obtain ⟨H1, hH1⟩ : ∃ H1, H.push (.cells [.int .i64 j.id, .int .i64 j.prio, .string j.body, .int .i64 j.state, .int .i64 j.tries, .int .i64 j.who, .int .i64 j.til] T.api_Job true) = H1 := ⟨_, rfl⟩
  obtain ⟨s1, n1, f1⟩ := YL hH1
  obtain ⟨H2, hH2⟩ : ∃ H2, H1.set H.n (.cells [.int .i64 j.id, .int .i64 j.prio, .string j.body, .int .i64 1, .int .i64 j.tries, .int .i64 j.who, .int .i64 j.til] T.api_Job true) = H2 := ⟨_, rfl⟩
  obtain ⟨s2, n2, f2, _⟩ := YG hH2
  obtain ⟨H3, hH3⟩ : ∃ H3, H2.set H.n (.cells [.int .i64 j.id, .int .i64 j.prio, .string j.body, .int .i64 1, .int .i64 j.tries, .int .i64 0, .int .i64 j.til] T.api_Job true) = H3 := ⟨_, rfl⟩
  obtain ⟨s3, n3, f3, _⟩ := YG hH3
  obtain ⟨H4, hH4⟩ : ∃ H4, H3.set H.n (.cells [.int .i64 j.id, .int .i64 j.prio, .string j.body, .int .i64 1, .int .i64 j.tries, .int .i64 0, .int .i64 0] T.api_Job true) = H4 := ⟨_, rfl⟩
  obtain ⟨s4, n4, f4, _⟩ := YG hH4
  have st4 : Yq H H4 := ((s1.then s2 fun b hb h => by omega).then s3 fun b hb h => by omega).then s4 fun b hb h => by omega
  have r4 := r.still st4
  have fq := r4.f
  unfold Ul at fq
  have hid : (fnd A (Wk tries j).id).isSome = true := h
  have hi : QI (Vz A (Wk tries j)) tries last now := i.rep (backJ_ok hj) hid backJ_w
  by_cases c : tries ≤ j.tries
  · obtain ⟨H5, hH5⟩ : ∃ H5, H4.set H.n (.cells [.int .i64 j.id, .int .i64 j.prio, .string j.body, .int .i64 3, .int .i64 j.tries, .int .i64 0, .int .i64 0] T.api_Job true) = H5 := ⟨_, rfl⟩
    obtain ⟨s5, n5, f5, _⟩ := YG hH5
    have st5 : Yq H H5 := st4.then s5 fun b hb h => by omega
    have r5 := r.still st5
    obtain ⟨H6, m6, r6, u6⟩ := q_qrep bq bm bk A tries last now (Wk tries j) H5 (ok.fr st5) r5 i (backJ_ok hj) hid
    have e : Wk tries j = ⟨j.id, j.prio, j.body, 3, j.tries, 0, 0⟩ := by unfold Wk; rw [if_pos c]
    have m6 : CC F.jobs_Queue_set [.pointer (some ⟨bq, 0, none⟩), .agg #[.int .i64 j.id, .int .i64 j.prio, .string j.body, .int .i64 3, .int .i64 j.tries, .int .i64 0, .int .i64 0]] H5 = some (.int .i64 0, H6) := by rw [e] at m6; exact m6
    obtain ⟨H7, t1, t2, t3⟩ := QR.tidy (v := .int .i64 0) ok r r6 (UpQ.pre r st5 u6)
    refine ⟨H7, (Zb _ _ H (r := (.int .i64 0, H6)) ?_).trans (congrArg some t1), t2, hi, t3⟩
    simp (disch := first | with_reducible rfl | assumption | omega | rfl | (simp only [go_sem]; first | done | omega)) only [go_sem, ↓reduceIte, reduceCtorEq, Nat.reduceEqDiff, Nat.reduceAdd, Nat.reduceSub, Nat.reduceMul, Nat.reduceDiv, Nat.reduceMod, Nat.reduceLeDiff, Nat.reduceLT, Nat.reduceBEq, Int.reduceEq, Int.reduceBEq, Int.reduceBNe, Int.reduceLT, Int.reduceLE, Int.reduceAdd, Int.reduceSub, Int.reduceNeg, Int.reduceToNat, Int.reducePow, Nat.reducePow, Int.reduceMul, Int.reduceDiv, ↓Wj, hH1, f1, hH2, f2, hH3, f3, hH4, f4, fq, c, hH5, f5, ↓Ya m6, Ya m6]
  · obtain ⟨H6, m6, r6, u6⟩ := q_qrep bq bm bk A tries last now (Wk tries j) H4 (ok.fr st4) r4 i (backJ_ok hj) hid
    have e : Wk tries j = ⟨j.id, j.prio, j.body, 1, j.tries, 0, 0⟩ := by unfold Wk; rw [if_neg c]
    have m6 : CC F.jobs_Queue_set [.pointer (some ⟨bq, 0, none⟩), .agg #[.int .i64 j.id, .int .i64 j.prio, .string j.body, .int .i64 1, .int .i64 j.tries, .int .i64 0, .int .i64 0]] H4 = some (.int .i64 0, H6) := by rw [e] at m6; exact m6
    obtain ⟨H7, t1, t2, t3⟩ := QR.tidy (v := .int .i64 0) ok r r6 (UpQ.pre r st4 u6)
    refine ⟨H7, (Zb _ _ H (r := (.int .i64 0, H6)) ?_).trans (congrArg some t1), t2, hi, t3⟩
    simp (disch := first | with_reducible rfl | assumption | omega | rfl | (simp only [go_sem]; first | done | omega)) only [go_sem, ↓reduceIte, reduceCtorEq, Nat.reduceEqDiff, Nat.reduceAdd, Nat.reduceSub, Nat.reduceMul, Nat.reduceDiv, Nat.reduceMod, Nat.reduceLeDiff, Nat.reduceLT, Nat.reduceBEq, Int.reduceEq, Int.reduceBEq, Int.reduceBNe, Int.reduceLT, Int.reduceLE, Int.reduceAdd, Int.reduceSub, Int.reduceNeg, Int.reduceToNat, Int.reducePow, Nat.reducePow, Int.reduceMul, Int.reduceDiv, ↓Wj, hH1, f1, hH2, f2, hH3, f3, hH4, f4, fq, c, ↓Ya m6, Ya m6]
theorem q_QBack (bq bm bk : Nat) (A : List Jb) (tries last now who id : Int) (j : Jb) (H : AHeap) (ok : Ok H) (r : QR H bq bm bk A tries last now) (i : QI A tries last now) (h : V3 A who id = 0) (hf : fnd A id = some j) :
    ∃ H', CC F.jobs_Queue_Back [.pointer (some ⟨bq, 0, none⟩), .int .i64 who, .int .i64 id] H = some (.int .i64 0, H') ∧ QR H' bq bm bk (Vz A (Wk tries j)) tries last now ∧ QI (Vz A (Wk tries j)) tries last now ∧ UpQ H bq bm bk H' := by
  obtain ⟨j', hf', hs, hw, h1, h2⟩ := takenE_ok h
  rw [hf] at hf'
  cases hf'
  obtain ⟨hj, hid⟩ := XG hf
  have m1 := q_Qtaken bq bm bk A tries last now who id j H ok r i hf hs hw h1 h2
  obtain ⟨H1, hH1⟩ : ∃ H1, H.push (.cells [.int .i64 0, .int .i64 0, .string (mk []), .int .i64 0, .int .i64 0, .int .i64 0, .int .i64 0] T.api_Job true) = H1 := ⟨_, rfl⟩
  obtain ⟨s1, n1, f1⟩ := YL hH1
  obtain ⟨H2, hH2⟩ : ∃ H2, H1.set H.n (.cells [.int .i64 j.id, .int .i64 j.prio, .string j.body, .int .i64 j.state, .int .i64 j.tries, .int .i64 j.who, .int .i64 j.til] T.api_Job true) = H2 := ⟨_, rfl⟩
  obtain ⟨s2, n2, f2, _⟩ := YG hH2
  have st : Yq H H2 := s1.then s2 fun b hb h => by omega
  obtain ⟨H3, m3, r3, i3, u3⟩ := q_Qback bq bm bk A tries last now j H2 (ok.fr st) (r.still st) i (i.a.ok j hj) (by rw [hid, hf]; rfl)
  obtain ⟨H4, t1, t2, t3⟩ := QR.tidy (v := .int .i64 0) ok r r3 (UpQ.pre r st u3)
  refine ⟨H4, (Zn _ _ _ H (r := (.int .i64 0, H3)) ?_).trans (congrArg some t1), t2, i3, t3⟩
  simp (disch := first | with_reducible rfl | assumption | omega | rfl | (simp only [go_sem]; first | done | omega)) only [go_sem, ↓reduceIte, reduceCtorEq, Nat.reduceEqDiff, Nat.reduceAdd, Nat.reduceSub, Nat.reduceMul, Nat.reduceDiv, Nat.reduceMod, Nat.reduceLeDiff, Nat.reduceLT, Nat.reduceBEq, Int.reduceEq, Int.reduceBEq, Int.reduceBNe, Int.reduceLT, Int.reduceLE, Int.reduceAdd, Int.reduceSub, Int.reduceNeg, Int.reduceToNat, Int.reducePow, Nat.reducePow, Int.reduceMul, Int.reduceDiv, ↓Wi, ↓Ya m1, Ya m1, hH1, f1, hH2, f2, ↓Ya m3, Ya m3]
def reviveE (A : List Jb) (id : Int) : Int := match fnd A id with
  | none => 9
  | some j => if j.state = 3 then 0 else 8
def Zl (j : Jb) : Jb := ⟨j.id, j.prio, j.body, 1, 0, j.who, j.til⟩
theorem reviveJ_ok {j : Jb} (h : JOk j) (hs : j.state = 3) : JOk (Zl j) :=
  ⟨h.id, h.prio, h.body, by show (1 : Int) ≤ 1 ∧ (1 : Int) ≤ 3; omega, by show (0 : Int) ≤ 0 ∧ (0 : Int) ≤ 100; omega, h.who, h.til, fun _ => h.free (by rw [hs]; decide)⟩
theorem q_QRevive_bad (bq bm bk : Nat) (A : List Jb) (tries last now id : Int) (H : AHeap) (ok : Ok H) (r : QR H bq bm bk A tries last now) (i : QI A tries last now) (h : reviveE A id ≠ 0) :
    CC F.jobs_Queue_Revive [.pointer (some ⟨bq, 0, none⟩), .int .i64 id] H = some (.int .i64 (reviveE A id), H) := by
  have m1 := q_QGet bq bm bk A tries last now id H ok r i
  unfold reviveE at h ⊢
  obtain ⟨H1, hH1⟩ : ∃ H1, H.push (.cells [.int .i64 0, .int .i64 0, .string (mk []), .int .i64 0, .int .i64 0, .int .i64 0, .int .i64 0] T.api_Job true) = H1 := ⟨_, rfl⟩
  obtain ⟨s1, n1, f1⟩ := YL hH1
  rcases Zt (A := A) id with hf | ⟨j, hf⟩
  · rw [hf] at m1 ⊢
    have m1 : CC F.jobs_Queue_Get [.pointer (some ⟨bq, 0, none⟩), .int .i64 id] H = some (.tuple #[.agg #[.int .i64 0, .int .i64 0, .string (mk []), .int .i64 0, .int .i64 0, .int .i64 0, .int .i64 0], .int .i64 9], H) := m1
    obtain ⟨H2, hH2⟩ : ∃ H2, H1.set H.n (.cells [.int .i64 0, .int .i64 0, .string (mk []), .int .i64 0, .int .i64 0, .int .i64 0, .int .i64 0] T.api_Job true) = H2 := ⟨_, rfl⟩
    obtain ⟨s2, n2, f2, _⟩ := YG hH2
    refine Yj (H' := H2) ?_ (V4 _ _ H) rfl (s1.then s2 fun b hb h => by omega)
    simp (disch := first | with_reducible rfl | assumption | omega | rfl | (simp only [go_sem]; first | done | omega)) only [go_sem, ↓reduceIte, reduceCtorEq, Nat.reduceEqDiff, Nat.reduceAdd, Nat.reduceSub, Nat.reduceMul, Nat.reduceDiv, Nat.reduceMod, Nat.reduceLeDiff, Nat.reduceLT, Nat.reduceBEq, Int.reduceEq, Int.reduceBEq, Int.reduceBNe, Int.reduceLT, Int.reduceLE, Int.reduceAdd, Int.reduceSub, Int.reduceNeg, Int.reduceToNat, Int.reducePow, Nat.reducePow, Int.reduceMul, Int.reduceDiv, ↓Xm, ↓Ya m1, Ya m1, hH1, f1, hH2]
  · rw [hf] at m1 h ⊢
    dsimp only at h ⊢
    have m1 : CC F.jobs_Queue_Get [.pointer (some ⟨bq, 0, none⟩), .int .i64 id] H = some (.tuple #[.agg #[.int .i64 j.id, .int .i64 j.prio, .string j.body, .int .i64 j.state, .int .i64 j.tries, .int .i64 j.who, .int .i64 j.til], .int .i64 0], H) := m1
    have c : ¬ j.state = 3 := fun c => h (by rw [if_pos c])
    rw [if_neg c]
    obtain ⟨H2, hH2⟩ : ∃ H2, H1.set H.n (.cells [.int .i64 j.id, .int .i64 j.prio, .string j.body, .int .i64 j.state, .int .i64 j.tries, .int .i64 j.who, .int .i64 j.til] T.api_Job true) = H2 := ⟨_, rfl⟩
    obtain ⟨s2, n2, f2, _⟩ := YG hH2
    refine Yj (H' := H2) ?_ (V4 _ _ H) rfl (s1.then s2 fun b hb h => by omega)
    simp (disch := first | with_reducible rfl | assumption | omega | rfl | (simp only [go_sem]; first | done | omega)) only [go_sem, ↓reduceIte, reduceCtorEq, Nat.reduceEqDiff, Nat.reduceAdd, Nat.reduceSub, Nat.reduceMul, Nat.reduceDiv, Nat.reduceMod, Nat.reduceLeDiff, Nat.reduceLT, Nat.reduceBEq, Int.reduceEq, Int.reduceBEq, Int.reduceBNe, Int.reduceLT, Int.reduceLE, Int.reduceAdd, Int.reduceSub, Int.reduceNeg, Int.reduceToNat, Int.reducePow, Nat.reducePow, Int.reduceMul, Int.reduceDiv, ↓Xm, ↓Ya m1, Ya m1, hH1, f1, hH2, f2, c]
theorem q_QRevive (bq bm bk : Nat) (A : List Jb) (tries last now id : Int) (j : Jb) (H : AHeap) (ok : Ok H) (r : QR H bq bm bk A tries last now) (i : QI A tries last now) (hf : fnd A id = some j) (c : j.state = 3) :
    ∃ H', CC F.jobs_Queue_Revive [.pointer (some ⟨bq, 0, none⟩), .int .i64 id] H = some (.int .i64 0, H') ∧ QR H' bq bm bk (Vz A (Zl j)) tries last now ∧ QI (Vz A (Zl j)) tries last now ∧ UpQ H bq bm bk H' := by
  have m1 := q_QGet bq bm bk A tries last now id H ok r i
  rw [hf] at m1
  have m1 : CC F.jobs_Queue_Get [.pointer (some ⟨bq, 0, none⟩), .int .i64 id] H = some (.tuple #[.agg #[.int .i64 j.id, .int .i64 j.prio, .string j.body, .int .i64 j.state, .int .i64 j.tries, .int .i64 j.who, .int .i64 j.til], .int .i64 0], H) := m1
  obtain ⟨hj, hid⟩ := XG hf
  have hok := i.a.ok j hj
  obtain ⟨H1, hH1⟩ : ∃ H1, H.push (.cells [.int .i64 0, .int .i64 0, .string (mk []), .int .i64 0, .int .i64 0, .int .i64 0, .int .i64 0] T.api_Job true) = H1 := ⟨_, rfl⟩
  obtain ⟨s1, n1, f1⟩ := YL hH1
  obtain ⟨H2, hH2⟩ : ∃ H2, H1.set H.n (.cells [.int .i64 j.id, .int .i64 j.prio, .string j.body, .int .i64 j.state, .int .i64 j.tries, .int .i64 j.who, .int .i64 j.til] T.api_Job true) = H2 := ⟨_, rfl⟩
  obtain ⟨s2, n2, f2, _⟩ := YG hH2
  obtain ⟨H3, hH3⟩ : ∃ H3, H2.set H.n (.cells [.int .i64 j.id, .int .i64 j.prio, .string j.body, .int .i64 1, .int .i64 j.tries, .int .i64 j.who, .int .i64 j.til] T.api_Job true) = H3 := ⟨_, rfl⟩
  obtain ⟨s3, n3, f3, _⟩ := YG hH3
  obtain ⟨H4, hH4⟩ : ∃ H4, H3.set H.n (.cells [.int .i64 j.id, .int .i64 j.prio, .string j.body, .int .i64 1, .int .i64 0, .int .i64 j.who, .int .i64 j.til] T.api_Job true) = H4 := ⟨_, rfl⟩
  obtain ⟨s4, n4, f4, _⟩ := YG hH4
  have st4 : Yq H H4 := ((s1.then s2 fun b hb h => by omega).then s3 fun b hb h => by omega).then s4 fun b hb h => by omega
  have hsome : (fnd A (Zl j).id).isSome = true := by show (fnd A j.id).isSome = true; rw [hid, hf]; rfl
  obtain ⟨H6, m6, r6, u6⟩ := q_qrep bq bm bk A tries last now (Zl j) H4 (ok.fr st4) (r.still st4) i (reviveJ_ok hok c) hsome
  have m6 : CC F.jobs_Queue_set [.pointer (some ⟨bq, 0, none⟩), .agg #[.int .i64 j.id, .int .i64 j.prio, .string j.body, .int .i64 1, .int .i64 0, .int .i64 j.who, .int .i64 j.til]] H4 = some (.int .i64 0, H6) := m6
  obtain ⟨H7, t1, t2, t3⟩ := QR.tidy (v := .int .i64 0) ok r r6 (UpQ.pre r st4 u6)
  refine ⟨H7, (V4 _ _ H (r := (.int .i64 0, H6)) ?_).trans (congrArg some t1), t2, i.rep (reviveJ_ok hok c) hsome (fun _ => by show (0 : Int) < tries; have := i.t; omega), t3⟩
  simp (disch := first | with_reducible rfl | assumption | omega | rfl | (simp only [go_sem]; first | done | omega)) only [go_sem, ↓reduceIte, reduceCtorEq, Nat.reduceEqDiff, Nat.reduceAdd, Nat.reduceSub, Nat.reduceMul, Nat.reduceDiv, Nat.reduceMod, Nat.reduceLeDiff, Nat.reduceLT, Nat.reduceBEq, Int.reduceEq, Int.reduceBEq, Int.reduceBNe, Int.reduceLT, Int.reduceLE, Int.reduceAdd, Int.reduceSub, Int.reduceNeg, Int.reduceToNat, Int.reducePow, Nat.reducePow, Int.reduceMul, Int.reduceDiv, ↓Xm, ↓Ya m1, Ya m1, hH1, f1, hH2, f2, eq_true c, hH3, f3, hH4, f4, ↓Ya m6, Ya m6]
end Go.Proofs.YtmiinbhnfojnbaaDoor

set_option maxRecDepth 10000
namespace Go.Proofs.YtmiinbhnfojnbaaDoor
open Go Eng
attribute [local congr] YX YZ YR
def UX (A : List Jb) : List Jb := (Vr A).filter fun j => decide (j.state = 1)
def Q1 (A : List Jb) (now who n : Int) : Int := if who < 1 ∨ 1000 < who ∨ n < 1 ∨ 1099511627776 - now < n then 2 else if UX A = [] then 9 else 0
def UA (j : Jb) (now who n : Int) : Jb := ⟨j.id, j.prio, j.body, 2, j.tries + 1, who, now + n⟩
theorem wait_mem {A : List Jb} {j : Jb} {t : List Jb} (h : UX A = j :: t) : j ∈ A ∧ j.state = 1 := by
  have : j ∈ UX A := by rw [h]; simp
  unfold UX at this
  rw [List.mem_filter, V1] at this
  simpa using this
theorem rd_job {H : AHeap} {v : Value} {l : List Jb} (r : Rd EJb H v l) {i : Nat} (hi : i < l.length) : ∃ b o, ixS 7 v (.int .i64 (i : Int)) = some (.pointer (some ⟨b, o, none⟩)) ∧ b < H.n ∧ UT (H.f b) o 7 = some l[i].l ∧ Yk v = some b := by
  obtain ⟨b, o, h1, h2, h3, h4⟩ := r.ix (q := .i64) hi
  exact ⟨b, o, h1, h2, h3, h4⟩
set_option maxHeartbeats 1000000 in
theorem q_QTake_bad (bq bm bk : Nat) (A : List Jb) (tries last now who n : Int) (H : AHeap) (ok : Ok H) (r : QR H bq bm bk A tries last now) (i : QI A tries last now) (h : Q1 A now who n ≠ 0) :
    CC F.jobs_Queue_Take [.pointer (some ⟨bq, 0, none⟩), .int .i64 who, .int .i64 n] H = some (.tuple #[.agg #[.int .i64 0, .int .i64 0, .string (mk []), .int .i64 0, .int .i64 0, .int .i64 0, .int .i64 0], .int .i64 (Q1 A now who n)], H) := by
  have hnow := i.n
  obtain ⟨H1, hH1⟩ : ∃ H1, H.push (.cells [.int .i64 0, .int .i64 0, .string (mk []), .int .i64 0, .int .i64 0, .int .i64 0, .int .i64 0] T.api_Job true) = H1 := ⟨_, rfl⟩
  obtain ⟨s1, n1, f1⟩ := YL hH1
  have r1 := r.still s1
  have m0 := r1.q_none
  have fq := r1.f
  unfold Ul at fq
  obtain ⟨H2, hH2⟩ : ∃ H2, H1.set H.n (.cells [.int .i64 0, .int .i64 0, .string (mk []), .int .i64 0, .int .i64 0, .int .i64 0, .int .i64 0] T.api_Job true) = H2 := ⟨_, rfl⟩
  obtain ⟨s2, n2, f2, _⟩ := YG hH2
  unfold Q1 at h ⊢
  by_cases h1 : who < 1
  · rw [if_pos (.inl h1)]
    refine Yj (H' := H2) ?_ (Wg _ _ _ H) rfl (s1.then s2 fun b hb h => by omega)
    simp (disch := first | with_reducible rfl | assumption | omega | rfl | (simp only [go_sem]; first | done | omega)) only [go_sem, ↓reduceIte, reduceCtorEq, Nat.reduceEqDiff, Nat.reduceAdd, Nat.reduceSub, Nat.reduceMul, Nat.reduceDiv, Nat.reduceMod, Nat.reduceLeDiff, Nat.reduceLT, Nat.reduceBEq, Int.reduceEq, Int.reduceBEq, Int.reduceBNe, Int.reduceLT, Int.reduceLE, Int.reduceAdd, Int.reduceSub, Int.reduceNeg, Int.reduceToNat, Int.reducePow, Nat.reducePow, Int.reduceMul, Int.reduceDiv, ↓YW, hH1, ↓Ya m0, Ya m0, h1, f1, hH2, f2, XD]
  by_cases h2 : 1000 < who
  · rw [if_pos (.inr (.inl h2))]
    refine Yj (H' := H2) ?_ (Wg _ _ _ H) rfl (s1.then s2 fun b hb h => by omega)
    simp (disch := first | with_reducible rfl | assumption | omega | rfl | (simp only [go_sem]; first | done | omega)) only [go_sem, ↓reduceIte, reduceCtorEq, Nat.reduceEqDiff, Nat.reduceAdd, Nat.reduceSub, Nat.reduceMul, Nat.reduceDiv, Nat.reduceMod, Nat.reduceLeDiff, Nat.reduceLT, Nat.reduceBEq, Int.reduceEq, Int.reduceBEq, Int.reduceBNe, Int.reduceLT, Int.reduceLE, Int.reduceAdd, Int.reduceSub, Int.reduceNeg, Int.reduceToNat, Int.reducePow, Nat.reducePow, Int.reduceMul, Int.reduceDiv, ↓YW, hH1, ↓Ya m0, Ya m0, h1, h2, f1, hH2, f2, XD]
  by_cases h3 : n < 1
  · rw [if_pos (.inr (.inr (.inl h3)))]
    refine Yj (H' := H2) ?_ (Wg _ _ _ H) rfl (s1.then s2 fun b hb h => by omega)
    simp (disch := first | with_reducible rfl | assumption | omega | rfl | (simp only [go_sem]; first | done | omega)) only [go_sem, ↓reduceIte, reduceCtorEq, Nat.reduceEqDiff, Nat.reduceAdd, Nat.reduceSub, Nat.reduceMul, Nat.reduceDiv, Nat.reduceMod, Nat.reduceLeDiff, Nat.reduceLT, Nat.reduceBEq, Int.reduceEq, Int.reduceBEq, Int.reduceBNe, Int.reduceLT, Int.reduceLE, Int.reduceAdd, Int.reduceSub, Int.reduceNeg, Int.reduceToNat, Int.reducePow, Nat.reducePow, Int.reduceMul, Int.reduceDiv, ↓YW, hH1, ↓Ya m0, Ya m0, h1, h2, h3, f1, hH2, f2, XD]
  by_cases h4 : 1099511627776 - now < n
  · rw [if_pos (.inr (.inr (.inr h4)))]
    refine Yj (H' := H2) ?_ (Wg _ _ _ H) rfl (s1.then s2 fun b hb h => by omega)
    simp (disch := first | with_reducible rfl | assumption | omega | rfl | (simp only [go_sem]; first | done | omega)) only [go_sem, ↓reduceIte, reduceCtorEq, Nat.reduceEqDiff, Nat.reduceAdd, Nat.reduceSub, Nat.reduceMul, Nat.reduceDiv, Nat.reduceMod, Nat.reduceLeDiff, Nat.reduceLT, Nat.reduceBEq, Int.reduceEq, Int.reduceBEq, Int.reduceBNe, Int.reduceLT, Int.reduceLE, Int.reduceAdd, Int.reduceSub, Int.reduceNeg, Int.reduceToNat, Int.reducePow, Nat.reducePow, Int.reduceMul, Int.reduceDiv, ↓YW, hH1, ↓Ya m0, Ya m0, h1, h2, h3, fq, h4, f1, hH2, f2, XD]
  rw [if_neg (by omega)] at h ⊢
  by_cases h5 : UX A = []
  · rw [if_pos h5]
    have mn := Gs 1 H1 (by decide) (by decide)
    obtain ⟨H3, hH3⟩ : ∃ H3, H1.push (.cells [.int .i64 1, .int .u64 1, .int .i64 0, .string (mk []), .bool false] T.api_Cell true) = H3 := ⟨_, rfl⟩
    obtain ⟨s3, n3, f3⟩ := YL hH3
    have hc : Rd ECl H3 (.slice (some ⟨H1.n, 0, none⟩) 1 2) [VL 1] := (newE (E := ECl) (l := [VL 1]) (e := T.api_Cell) (by omega) f3).1
    obtain ⟨v, H4, m4, so⟩ := q_inS bq bm bk A tries last now 1 (by decide) _ H3 (ok.fr (s1.trans s3)) (r1.still s3) i hc
    have hlen := so.own.rd.lenS
    rw [show ((Vr A).filter fun j => decide (j.state = 1)) = UX A from rfl, h5] at hlen
    have hlen : lenS v = some (.int .i64 0) := hlen
    have g4 : H4.f H.n = .cells [.int .i64 0, .int .i64 0, .string (mk []), .int .i64 0, .int .i64 0, .int .i64 0, .int .i64 0] T.api_Job true := by rw [(s3.trans so.still).f (by omega) fun h => h]; exact f1
    obtain ⟨H5, hH5⟩ : ∃ H5, H4.set H.n (.cells [.int .i64 0, .int .i64 0, .string (mk []), .int .i64 0, .int .i64 0, .int .i64 0, .int .i64 0] T.api_Job true) = H5 := ⟨_, rfl⟩
    obtain ⟨s5, n5, f5, _⟩ := YG hH5
    refine Yj (H' := H5) ?_ (Wg _ _ _ H) rfl (((s1.trans s3).trans so.still).then s5 fun b hb h => by omega)
    simp (disch := first | with_reducible rfl | assumption | omega | rfl | (simp only [go_sem]; first | done | omega)) only [go_sem, ↓reduceIte, reduceCtorEq, Nat.reduceEqDiff, Nat.reduceAdd, Nat.reduceSub, Nat.reduceMul, Nat.reduceDiv, Nat.reduceMod, Nat.reduceLeDiff, Nat.reduceLT, Nat.reduceBEq, Int.reduceEq, Int.reduceBEq, Int.reduceBNe, Int.reduceLT, Int.reduceLE, Int.reduceAdd, Int.reduceSub, Int.reduceNeg, Int.reduceToNat, Int.reducePow, Nat.reducePow, Int.reduceMul, Int.reduceDiv, ↓YW, hH1, ↓Ya m0, Ya m0, h1, h2, h3, fq, h4, ↓Ya mn, Ya mn, hH3, ↓Ya m4, Ya m4, hlen, g4, hH5, f5, XD]
  · rw [if_neg h5] at h
    exact absurd rfl h
theorem takeJ_ok {j : Jb} (h : JOk j) {now who n : Int} (hw : 1 ≤ who ∧ who ≤ 1000) (hn : 1 ≤ n) (h0 : 0 ≤ now) (hb : now + n ≤ 1099511627776) (ht : j.tries < 100) : JOk (UA j now who n) :=
  ⟨h.id, h.prio, h.body, by show (1 : Int) ≤ 2 ∧ (2 : Int) ≤ 3; omega, by show 0 ≤ j.tries + 1 ∧ j.tries + 1 ≤ 100; have := h.tries; omega, by show 0 ≤ who ∧ who ≤ 1000; omega, by show 0 ≤ now + n ∧ now + n ≤ 1099511627776; omega, fun h => absurd rfl h⟩
set_option maxHeartbeats 2000000 in
theorem q_QTake (bq bm bk : Nat) (A : List Jb) (tries last now who n : Int) (j : Jb) (t : List Jb) (H : AHeap) (ok : Ok H) (r : QR H bq bm bk A tries last now) (i : QI A tries last now) (h : Q1 A now who n = 0) (hj : UX A = j :: t) :
    ∃ H', CC F.jobs_Queue_Take [.pointer (some ⟨bq, 0, none⟩), .int .i64 who, .int .i64 n] H = some (.tuple #[.agg ⟨(UA j now who n).l⟩, .int .i64 0], H') ∧ QR H' bq bm bk (Vz A (UA j now who n)) tries last now ∧ QI (Vz A (UA j now who n)) tries last now ∧ UpQ H bq bm bk H' := by
  have hnow := i.n
  have ht := i.t
  have hb : ¬ (who < 1 ∨ 1000 < who ∨ n < 1 ∨ 1099511627776 - now < n) := fun c => by unfold Q1 at h; rw [if_pos c] at h; cases h
  have h1 : ¬ who < 1 := by omega
  have h2 : ¬ 1000 < who := by omega
  have h3 : ¬ n < 1 := by omega
  have h4 : ¬ 1099511627776 - now < n := by omega
  obtain ⟨hA, hs⟩ := wait_mem hj
  have hok := i.a.ok j hA
  have hw := i.w j hA hs
  have htr := hok.tries
  have hok' : JOk (UA j now who n) := takeJ_ok hok (by omega) (by omega) hnow.1 (by omega) (by omega)
  have hsome : (fnd A (UA j now who n).id).isSome = true := by show (fnd A j.id).isSome = true; rw [Z7 i.a.inc hA]; rfl
  obtain ⟨H1, hH1⟩ : ∃ H1, H.push (.cells [.int .i64 0, .int .i64 0, .string (mk []), .int .i64 0, .int .i64 0, .int .i64 0, .int .i64 0] T.api_Job true) = H1 := ⟨_, rfl⟩
  obtain ⟨s1, n1, f1⟩ := YL hH1
  have r1 := r.still s1
  have m0 := r1.q_none
  have fq := r1.f
  unfold Ul at fq
  have mn := Gs 1 H1 (by decide) (by decide)
  obtain ⟨H3, hH3⟩ : ∃ H3, H1.push (.cells [.int .i64 1, .int .u64 1, .int .i64 0, .string (mk []), .bool false] T.api_Cell true) = H3 := ⟨_, rfl⟩
  obtain ⟨s3, n3, f3⟩ := YL hH3
  have hc : Rd ECl H3 (.slice (some ⟨H1.n, 0, none⟩) 1 2) [VL 1] := (newE (E := ECl) (l := [VL 1]) (e := T.api_Cell) (by omega) f3).1
  obtain ⟨v, H4, m4, so⟩ := q_inS bq bm bk A tries last now 1 (by decide) _ H3 (ok.fr (s1.trans s3)) (r1.still s3) i hc
  have so : SinceE EJb T.api_Job H3 H4 v (j :: t) := by rw [← hj]; exact so
  have hlen : lenS v = some (.int .i64 ((t.length : Int) + 1)) := so.own.rd.lenS
  have hne : ¬ (t.length : Int) + 1 = 0 := by omega
  obtain ⟨b, o, ix, lb, cb, _⟩ := rd_job so.own.rd (i := 0) (by simp)
  have ix : ixS 7 v (.int .i64 0) = some (.pointer (some ⟨b, o, none⟩)) := ix
  have cb : UT (H4.f b) o 7 = some [.int .i64 j.id, .int .i64 j.prio, .string j.body, .int .i64 j.state, .int .i64 j.tries, .int .i64 j.who, .int .i64 j.til] := cb
  obtain ⟨H5, hH5⟩ : ∃ H5, H4.push (.cells [.int .i64 0, .int .i64 0, .string (mk []), .int .i64 0, .int .i64 0, .int .i64 0, .int .i64 0] T.api_Job true) = H5 := ⟨_, rfl⟩
  obtain ⟨s5, n5, f5⟩ := YL hH5
  obtain ⟨H6, hH6⟩ : ∃ H6, H5.set H4.n (.cells [.int .i64 j.id, .int .i64 j.prio, .string j.body, .int .i64 j.state, .int .i64 j.tries, .int .i64 j.who, .int .i64 j.til] T.api_Job true) = H6 := ⟨_, rfl⟩
  obtain ⟨s6, n6, f6, _⟩ := YG hH6
  obtain ⟨H7, hH7⟩ : ∃ H7, H6.set H4.n (.cells [.int .i64 j.id, .int .i64 j.prio, .string j.body, .int .i64 2, .int .i64 j.tries, .int .i64 j.who, .int .i64 j.til] T.api_Job true) = H7 := ⟨_, rfl⟩
  obtain ⟨s7, n7, f7, _⟩ := YG hH7
  obtain ⟨H8, hH8⟩ : ∃ H8, H7.set H4.n (.cells [.int .i64 j.id, .int .i64 j.prio, .string j.body, .int .i64 2, .int .i64 j.tries, .int .i64 who, .int .i64 j.til] T.api_Job true) = H8 := ⟨_, rfl⟩
  obtain ⟨s8, n8, f8, _⟩ := YG hH8
  obtain ⟨H9, hH9⟩ : ∃ H9, H8.set H4.n (.cells [.int .i64 j.id, .int .i64 j.prio, .string j.body, .int .i64 2, .int .i64 j.tries, .int .i64 who, .int .i64 (now + n)] T.api_Job true) = H9 := ⟨_, rfl⟩
  obtain ⟨s9, n9, f9, _⟩ := YG hH9
  obtain ⟨Ha, hHa⟩ : ∃ Ha, H9.set H4.n (.cells [.int .i64 j.id, .int .i64 j.prio, .string j.body, .int .i64 2, .int .i64 (j.tries + 1), .int .i64 who, .int .i64 (now + n)] T.api_Job true) = Ha := ⟨_, rfl⟩
  obtain ⟨sa, na, fa, _⟩ := YG hHa
  have n4 := so.still.n
  have st4 : Yq H H4 := (s1.trans s3).trans so.still
  have st6 : Yq H H6 := (st4.trans s5).then s6 fun b hb h => by omega
  have st : Yq H Ha := (((st6.then s7 fun b hb h => by omega).then s8 fun b hb h => by omega).then s9 fun b hb h => by omega).then sa fun b hb h => by omega
  have fq6 : H6.f bq = .cells [.pointer (some ⟨bm, 0, none⟩), .map (some bk), .int .i64 tries, .int .i64 last, .int .i64 now] T.jobs_Queue true := (r.still st6).f
  have hbq := r.lt
  have ck1 : okV (some true) (some bq) H6 H7 H6 H6 = true := ZR (.inr (s7.ver (by omega) (by omega))) (.inr (Nat.le_refl _))
  have ck2 : okV (some true) (some bq) H7 H8 H6 H6 = true := ZR (.inr (s8.ver (by omega) (by omega))) (.inr (Nat.le_refl _))
  obtain ⟨Hb, mb, rb, ub⟩ := q_qrep bq bm bk A tries last now (UA j now who n) Ha (ok.fr st) (r.still st) i hok' hsome
  have mb : CC F.jobs_Queue_set [.pointer (some ⟨bq, 0, none⟩), .agg #[.int .i64 j.id, .int .i64 j.prio, .string j.body, .int .i64 2, .int .i64 (j.tries + 1), .int .i64 who, .int .i64 (now + n)]] Ha = some (.int .i64 0, Hb) := mb
  have hQ : ∀ c, H.n ≤ c → ¬ QB Ha bq bm bk c := fun c hc h => by have := r.blk (h.still r.mdl st); omega
  have z0 : Ha.f H.n = .cells [.int .i64 0, .int .i64 0, .string (mk []), .int .i64 0, .int .i64 0, .int .i64 0, .int .i64 0] T.api_Job true := by
    rw [sa.f (by omega) (by omega), s9.f (by omega) (by omega), s8.f (by omega) (by omega), s7.f (by omega) (by omega), s6.f (by omega) (by omega), (s3.trans (so.still.trans s5)).f (by omega) fun h => h]; exact f1
  have zb : Hb.f H.n = .cells [.int .i64 0, .int .i64 0, .string (mk []), .int .i64 0, .int .i64 0, .int .i64 0, .int .i64 0] T.api_Job true := by rw [ub.fr.f (by omega) (hQ _ (by omega))]; exact z0
  have fb : Hb.f H4.n = .cells [.int .i64 j.id, .int .i64 j.prio, .string j.body, .int .i64 2, .int .i64 (j.tries + 1), .int .i64 who, .int .i64 (now + n)] T.api_Job true := by rw [ub.fr.f (by omega) (hQ _ st4.n)]; exact fa
  obtain ⟨Hc, hHc⟩ : ∃ Hc, Hb.set H.n (.cells [.int .i64 j.id, .int .i64 j.prio, .string j.body, .int .i64 2, .int .i64 (j.tries + 1), .int .i64 who, .int .i64 (now + n)] T.api_Job true) = Hc := ⟨_, rfl⟩
  obtain ⟨sc, nc, fc, _⟩ := YG hHc
  have ub' := UpQ.pre r st ub
  have hQb : ¬ QB Hb bq bm bk H.n := fun h => by
    rcases h with h | h | h
    · omega
    · have := r.klt; omega
    · rcases ub'.mb _ h with h | h
      · have := r.mdl.blk h; omega
      · rcases ub.mb _ ‹_› with h' | h'
        · exact hQ _ (Nat.le_refl _) (.inr (.inr h'))
        · have := st.n; omega
  obtain ⟨uc, rc⟩ := ub'.post rb sc fun c hc => ⟨by omega, by rw [hc]; exact hQb⟩
  obtain ⟨Hd, t1, t2, t3⟩ := QR.tidy (v := .tuple #[.agg ⟨(UA j now who n).l⟩, .int .i64 0]) ok r rc uc
  refine ⟨Hd, (Wg _ _ _ H (r := (.tuple #[.agg ⟨(UA j now who n).l⟩, .int .i64 0], Hc)) ?_).trans (congrArg some t1), t2, i.rep hok' hsome (fun h => by cases h), t3⟩
  show YW _ _ _ _ _ _ _ _ _ _ = some (.tuple #[.agg #[.int .i64 j.id, .int .i64 j.prio, .string j.body, .int .i64 2, .int .i64 (j.tries + 1), .int .i64 who, .int .i64 (now + n)], .int .i64 0], Hc)
  simp (disch := first | with_reducible rfl | assumption | omega | rfl | (simp only [go_sem]; first | done | omega)) only [go_sem, ↓reduceIte, reduceCtorEq, Nat.reduceEqDiff, Nat.reduceAdd, Nat.reduceSub, Nat.reduceMul, Nat.reduceDiv, Nat.reduceMod, Nat.reduceLeDiff, Nat.reduceLT, Nat.reduceBEq, Int.reduceEq, Int.reduceBEq, Int.reduceBNe, Int.reduceLT, Int.reduceLE, Int.reduceAdd, Int.reduceSub, Int.reduceNeg, Int.reduceToNat, Int.reducePow, Nat.reducePow, Int.reduceMul, Int.reduceDiv, ↓YW, hH1, ↓Ya m0, Ya m0, h1, h2, h3, fq, h4, ↓Ya mn, Ya mn, hH3, ↓Ya m4, Ya m4, hlen, hne, ix, cb, hH5, f5, hH6, f6, fq6, hH7, f7, hH8, f8, hH9, f9, hHa, fa, ck1, ck2, ↓Ya mb, Ya mb, zb, fb, hHc, fc, XD]
end Go.Proofs.YtmiinbhnfojnbaaDoor

set_option maxRecDepth 10000
namespace Go.Proofs.YtmiinbhnfojnbaaDoor
open Go Eng
attribute [local congr] YX YZ YR
def dueJ (tick : Int) (a : Jb) : Bool := decide (a.til ≤ tick)
def passJ (A : List Jb) (tries tick : Int) : List Jb := A.map fun a => if a.state = 2 ∧ a.til ≤ tick then Wk tries a else a
theorem while_filter {tick : Int} : ∀ {l : List Jb}, l.Pairwise (fun a b => a.til ≤ b.til) → l.takeWhile (dueJ tick) = l.filter (dueJ tick)
  | [], _ => rfl
  | a :: l, h => by
    obtain ⟨h1, h2⟩ := List.pairwise_cons.1 h
    by_cases hd : dueJ tick a = true
    · rw [List.takeWhile_cons_of_pos hd, List.filter_cons_of_pos hd, while_filter h2]
    · rw [List.takeWhile_cons_of_neg hd, List.filter_cons_of_neg hd]
      symm
      rw [List.filter_eq_nil_iff]
      intro b hb
      have := h1 b hb
      unfold dueJ at hd ⊢
      simp only [decide_eq_true_eq] at hd ⊢
      omega
theorem fold_rep (tries : Int) : ∀ (F A : List Jb), A.Pairwise (fun a b => a.id < b.id) → (∀ j ∈ F, fnd A j.id = some j) → F.Pairwise (fun a b => a.id ≠ b.id) →
    F.foldl (fun A j => Vz A (Wk tries j)) A = A.map fun a => if a ∈ F then Wk tries a else a
  | [], A, _, _, _ => by simp
  | j :: F, A, hA, hF, hp => by
    obtain ⟨h1, h2⟩ := List.pairwise_cons.1 hp
    obtain ⟨hj, _⟩ := XG (hF j (by simp))
    rw [List.foldl_cons, fold_rep tries F (Vz A (Wk tries j)) (inc_ids (ids_rep A _) hA) (fun x hx => by rw [fnd_rep_ne (j := Wk tries j) (fun e => h1 x hx e.symm)]; exact hF x (by simp [hx])) h2]
    unfold Vz
    rw [List.map_map]
    apply List.map_congr_left
    intro a ha
    simp only [Function.comp]
    by_cases e : a.id = j.id
    · have e' : a = j := Q4 hA ha hj e
      subst e'
      have hn : Wk tries a ∉ F := fun h => h1 _ h rfl
      rw [if_pos (show a.id = (Wk tries a).id from rfl), if_neg hn, if_pos (by simp)]
    · rw [if_neg (show ¬ a.id = (Wk tries j).id from e)]
      have : a ∈ j :: F ↔ a ∈ F := by
        rw [List.mem_cons]
        exact ⟨fun h => h.resolve_left fun h => e (by rw [h]), .inr⟩
      by_cases hm : a ∈ F
      · rw [if_pos hm, if_pos (this.2 hm)]
      · rw [if_neg hm, if_neg (fun h => hm (this.1 h))]
set_option maxHeartbeats 1000000 in
theorem l_pass (bq bm bk : Nat) (tries last tick : Int) (L : List Jb) (hL : L.length ≤ 1000) (hok : ∀ j ∈ L, JOk j) (v : Value) (H0 : AHeap) (hv : Rd EJb H0 v L) (hoff : ∀ b, Yk v = some b → ¬ QB H0 bq bm bk b) :
    ∀ (t : List Jb) (i : Nat) (H : AHeap) (A : List Jb), L.drop i = t → Ok H → QR H bq bm bk A tries last tick → QI A tries last tick → UpQ H0 bq bm bk H → (∀ j ∈ t, fnd A j.id = some j) → t.Pairwise (fun a b => a.id ≠ b.id) →
    ∃ H', QR H' bq bm bk ((t.takeWhile (dueJ tick)).foldl (fun A j => Vz A (Wk tries j)) A) tries last tick ∧ QI ((t.takeWhile (dueJ tick)).foldl (fun A j => Vz A (Wk tries j)) A) tries last tick ∧ UpQ H0 bq bm bk H' ∧
      ∀ K : K, Xo (.pointer (some ⟨bq, 0, none⟩)) (.int .i64 tick) v (.int .i64 (L.length : Int)) (.int .i64 (i : Int)) H (YI [] 1 K) = K .normal [] H'
  | [], i, H, A, hx, ok, r, qi, u, hf, hp => by
    have h : L.length ≤ i := List.drop_eq_nil_iff.1 hx
    have hlt : ¬ (i : Int) < (L.length : Int) := by omega
    refine ⟨H, r, qi, u, fun K => ?_⟩
    rw [V6]
    simp (disch := first | with_reducible rfl | assumption | omega | rfl | (simp only [go_sem]; first | done | omega)) only [go_sem, ↓reduceIte, reduceCtorEq, Nat.reduceEqDiff, Nat.reduceAdd, Nat.reduceSub, Nat.reduceMul, Nat.reduceDiv, Nat.reduceMod, Nat.reduceLeDiff, Nat.reduceLT, Nat.reduceBEq, Int.reduceEq, Int.reduceBEq, Int.reduceBNe, Int.reduceLT, Int.reduceLE, Int.reduceAdd, Int.reduceSub, Int.reduceNeg, Int.reduceToNat, Int.reducePow, Nat.reducePow, Int.reduceMul, Int.reduceDiv, ↓Wd, hlt]
  | j :: t, i, H, A, hx, ok, r, qi, u, hf, hp => by
    obtain ⟨h, hxa, hx'⟩ := WB hx
    have hlt : (i : Int) < (L.length : Int) := by omega
    obtain ⟨hp1, hp2⟩ := List.pairwise_cons.1 hp
    have hjf := hf j (by simp)
    have hj := hok j (by rw [← hxa]; exact List.getElem_mem h)
    have hv1 : Rd EJb H v L := hv.keep u.fr hoff
    obtain ⟨b, o, ix, lb, cb, _⟩ := rd_job hv1 h
    rw [hxa] at cb
    have cb : UT (H.f b) o 7 = some [.int .i64 j.id, .int .i64 j.prio, .string j.body, .int .i64 j.state, .int .i64 j.tries, .int .i64 j.who, .int .i64 j.til] := cb
    obtain ⟨H1, hH1⟩ : ∃ H1, H.push (.cells [.int .i64 0, .int .i64 0, .string (mk []), .int .i64 0, .int .i64 0, .int .i64 0, .int .i64 0] T.api_Job true) = H1 := ⟨_, rfl⟩
    obtain ⟨s1, n1, f1⟩ := YL hH1
    obtain ⟨H2, hH2⟩ : ∃ H2, H1.set H.n (.cells [.int .i64 j.id, .int .i64 j.prio, .string j.body, .int .i64 j.state, .int .i64 j.tries, .int .i64 j.who, .int .i64 j.til] T.api_Job true) = H2 := ⟨_, rfl⟩
    obtain ⟨s2, n2, f2, _⟩ := YG hH2
    have st : Yq H H2 := s1.then s2 fun b hb h => by omega
    have e1 : ((i : Int) + 1) = ((i + 1 : Nat) : Int) := by omega
    by_cases c : tick < j.til
    · have hd : ¬ dueJ tick j = true := by unfold dueJ; simp only [decide_eq_true_eq]; omega
      refine ⟨H2, ?_, ?_, u.trans (UpQ.of_still r st), fun K => ?_⟩
      · rw [List.takeWhile_cons_of_neg hd]; exact r.still st
      · rw [List.takeWhile_cons_of_neg hd]; exact qi
      · rw [V6]
        simp (disch := first | with_reducible rfl | assumption | omega | rfl | (simp only [go_sem]; first | done | omega)) only [go_sem, ↓reduceIte, reduceCtorEq, Nat.reduceEqDiff, Nat.reduceAdd, Nat.reduceSub, Nat.reduceMul, Nat.reduceDiv, Nat.reduceMod, Nat.reduceLeDiff, Nat.reduceLT, Nat.reduceBEq, Int.reduceEq, Int.reduceBEq, Int.reduceBNe, Int.reduceLT, Int.reduceLE, Int.reduceAdd, Int.reduceSub, Int.reduceNeg, Int.reduceToNat, Int.reducePow, Nat.reducePow, Int.reduceMul, Int.reduceDiv, ↓Wd, hlt, ix, cb, hH1, f1, hH2, f2, c]
    · have hd : dueJ tick j = true := by unfold dueJ; simp only [decide_eq_true_eq]; omega
      obtain ⟨H3, m3, r3, i3, u3⟩ := q_Qback bq bm bk A tries last tick j H2 (ok.fr st) (r.still st) qi hj (by rw [hjf]; rfl)
      have u' := u.trans (UpQ.pre r st u3)
      obtain ⟨H', r', i', u'', e'⟩ := l_pass bq bm bk tries last tick L hL hok v H0 hv hoff t (i + 1) H3 (Vz A (Wk tries j)) hx' ((ok.fr st).fr u3.fr) r3 i3 u' (fun x hx => by
        rw [fnd_rep_ne (j := Wk tries j) (fun e => hp1 x hx e.symm)]; exact hf x (by simp [hx])) hp2
      refine ⟨H', by rw [List.takeWhile_cons_of_pos hd]; exact r', by rw [List.takeWhile_cons_of_pos hd]; exact i', u'', fun K => ?_⟩
      have e' := e' K
      rw [← e1] at e'
      rw [V6]
      simp (disch := first | with_reducible rfl | assumption | omega | rfl | (simp only [go_sem]; first | done | omega)) only [go_sem, ↓reduceIte, reduceCtorEq, Nat.reduceEqDiff, Nat.reduceAdd, Nat.reduceSub, Nat.reduceMul, Nat.reduceDiv, Nat.reduceMod, Nat.reduceLeDiff, Nat.reduceLT, Nat.reduceBEq, Int.reduceEq, Int.reduceBEq, Int.reduceBNe, Int.reduceLT, Int.reduceLE, Int.reduceAdd, Int.reduceSub, Int.reduceNeg, Int.reduceToNat, Int.reducePow, Nat.reducePow, Int.reduceMul, Int.reduceDiv, ↓Wd, hlt, ix, cb, hH1, f1, hH2, f2, c, ↓Ya m3, Ya m3]
      exact e'
def passE (now tick : Int) : Int := if tick < 0 ∨ 1099511627776 < tick then 2 else if tick < now then 14 else 0
theorem q_QPass_bad (bq bm bk : Nat) (A : List Jb) (tries last now tick : Int) (H : AHeap) (r : QR H bq bm bk A tries last now) (h : passE now tick ≠ 0) :
    CC F.jobs_Queue_Pass [.pointer (some ⟨bq, 0, none⟩), .int .i64 tick] H = some (.int .i64 (passE now tick), H) := by
  have m0 := r.q_none
  have fq := r.f
  unfold Ul at fq
  unfold passE at h ⊢
  by_cases h1 : tick < 0
  · rw [if_pos (.inl h1)]
    apply Yj _ (VG _ _ H) rfl
    rotate_left 2
    · simp (disch := first | with_reducible rfl | assumption | omega | rfl | (simp only [go_sem]; first | done | omega)) only [go_sem, ↓reduceIte, reduceCtorEq, Nat.reduceEqDiff, Nat.reduceAdd, Nat.reduceSub, Nat.reduceMul, Nat.reduceDiv, Nat.reduceMod, Nat.reduceLeDiff, Nat.reduceLT, Nat.reduceBEq, Int.reduceEq, Int.reduceBEq, Int.reduceBNe, Int.reduceLT, Int.reduceLE, Int.reduceAdd, Int.reduceSub, Int.reduceNeg, Int.reduceToNat, Int.reducePow, Nat.reducePow, Int.reduceMul, Int.reduceDiv, ↓Xr, ↓Ya m0, Ya m0, h1]
      rfl
    · (repeat (first | exact Fr.refl _ | refine Fr.push ?_ _ | refine Fr.set ?_ _ _ (by intro h; first | omega | (simp only [go_sem] at h; omega))))
  by_cases h2 : 1099511627776 < tick
  · rw [if_pos (.inr h2)]
    apply Yj _ (VG _ _ H) rfl
    rotate_left 2
    · simp (disch := first | with_reducible rfl | assumption | omega | rfl | (simp only [go_sem]; first | done | omega)) only [go_sem, ↓reduceIte, reduceCtorEq, Nat.reduceEqDiff, Nat.reduceAdd, Nat.reduceSub, Nat.reduceMul, Nat.reduceDiv, Nat.reduceMod, Nat.reduceLeDiff, Nat.reduceLT, Nat.reduceBEq, Int.reduceEq, Int.reduceBEq, Int.reduceBNe, Int.reduceLT, Int.reduceLE, Int.reduceAdd, Int.reduceSub, Int.reduceNeg, Int.reduceToNat, Int.reducePow, Nat.reducePow, Int.reduceMul, Int.reduceDiv, ↓Xr, ↓Ya m0, Ya m0, h1, h2]
      rfl
    · (repeat (first | exact Fr.refl _ | refine Fr.push ?_ _ | refine Fr.set ?_ _ _ (by intro h; first | omega | (simp only [go_sem] at h; omega))))
  rw [if_neg (by omega)] at h ⊢
  by_cases h3 : tick < now
  · rw [if_pos h3]
    apply Yj _ (VG _ _ H) rfl
    rotate_left 2
    · simp (disch := first | with_reducible rfl | assumption | omega | rfl | (simp only [go_sem]; first | done | omega)) only [go_sem, ↓reduceIte, reduceCtorEq, Nat.reduceEqDiff, Nat.reduceAdd, Nat.reduceSub, Nat.reduceMul, Nat.reduceDiv, Nat.reduceMod, Nat.reduceLeDiff, Nat.reduceLT, Nat.reduceBEq, Int.reduceEq, Int.reduceBEq, Int.reduceBNe, Int.reduceLT, Int.reduceLE, Int.reduceAdd, Int.reduceSub, Int.reduceNeg, Int.reduceToNat, Int.reducePow, Nat.reducePow, Int.reduceMul, Int.reduceDiv, ↓Xr, ↓Ya m0, Ya m0, h1, h2, fq, h3]
      rfl
    · (repeat (first | exact Fr.refl _ | refine Fr.push ?_ _ | refine Fr.set ?_ _ _ (by intro h; first | omega | (simp only [go_sem] at h; omega))))
  · rw [if_neg h3] at h
    exact absurd rfl h
theorem pass_fold {A : List Jb} {n : Int} (h : AOk A n) (tries tick : Int) :
    (((Vr A).filter fun j => decide (j.state = 2)).takeWhile (dueJ tick)).foldl (fun A j => Vz A (Wk tries j)) A = passJ A tries tick := by
  have hs := h.sj
  have hF : ((Vr A).filter fun j => decide (j.state = 2)).Pairwise fun a b => befJ a b = true := hs.sublist List.filter_sublist
  have hst : ∀ a ∈ (Vr A).filter fun j => decide (j.state = 2), a.state = 2 := fun a ha => by simpa using (List.mem_filter.1 ha).2
  have hm : ∀ a ∈ (Vr A).filter fun j => decide (j.state = 2), a ∈ A := fun a ha => V1.1 (List.mem_filter.1 ha).1
  have ht : ((Vr A).filter fun j => decide (j.state = 2)).Pairwise fun a b => a.til ≤ b.til := by
    refine hF.imp_of_mem fun {a b} ha hb hab => ?_
    have h1 := hst a ha
    have h2 := hst b hb
    rw [ZL] at hab
    unfold UU at hab
    rw [if_neg (by omega), if_pos h1, if_neg (by omega), if_pos h2] at hab
    omega
  have hn : ((Vr A).filter fun j => decide (j.state = 2)).Pairwise fun a b => a.id ≠ b.id := by
    refine hF.imp_of_mem fun {a b} ha hb hab e => ?_
    have := Q4 h.inc (hm a ha) (hm b hb) e
    rw [this, befJ_irr] at hab
    cases hab
  rw [while_filter ht, fold_rep tries _ A h.inc (fun j hj => Z7 h.inc (hm j (List.mem_filter.1 hj).1)) (hn.sublist List.filter_sublist)]
  unfold passJ
  apply List.map_congr_left
  intro a ha
  have : a ∈ ((Vr A).filter fun j => decide (j.state = 2)).filter (dueJ tick) ↔ a.state = 2 ∧ a.til ≤ tick := by
    rw [List.mem_filter, List.mem_filter, V1]
    unfold dueJ
    simp only [decide_eq_true_eq]
    exact ⟨fun h => ⟨h.1.2, h.2⟩, fun h => ⟨⟨ha, h.1⟩, h.2⟩⟩
  by_cases hc : a.state = 2 ∧ a.til ≤ tick
  · rw [if_pos hc, if_pos (this.2 hc)]
  · rw [if_neg hc, if_neg fun h => hc (this.1 h)]
set_option maxHeartbeats 1000000 in
theorem q_QPass (bq bm bk : Nat) (A : List Jb) (tries last now tick : Int) (H : AHeap) (ok : Ok H) (r : QR H bq bm bk A tries last now) (i : QI A tries last now) (h : passE now tick = 0) :
    ∃ H', CC F.jobs_Queue_Pass [.pointer (some ⟨bq, 0, none⟩), .int .i64 tick] H = some (.int .i64 0, H') ∧ QR H' bq bm bk (passJ A tries tick) tries last tick ∧ QI (passJ A tries tick) tries last tick ∧ UpQ H bq bm bk H' := by
  have hb : ¬ (tick < 0 ∨ 1099511627776 < tick) := fun c => by unfold passE at h; rw [if_pos c] at h; cases h
  have h3 : ¬ tick < now := fun c => by unfold passE at h; rw [if_neg hb, if_pos c] at h; cases h
  have h1 : ¬ tick < 0 := by omega
  have h2 : ¬ 1099511627776 < tick := by omega
  have m0 := r.q_none
  have fq := r.f
  unfold Ul at fq
  obtain ⟨H1, hH1⟩ : ∃ H1, H.set bq (.cells [.pointer (some ⟨bm, 0, none⟩), .map (some bk), .int .i64 tries, .int .i64 last, .int .i64 tick] T.jobs_Queue true) = H1 := ⟨_, rfl⟩
  obtain ⟨r1, u1⟩ := r.setq hH1
  obtain ⟨_, _, f1, v1⟩ := YG hH1
  have ok1 := ok.fr u1.fr
  have i1 : QI A tries last tick := ⟨i.a, i.t, i.l, by omega, i.w⟩
  have mn := Gs 2 H1 (by decide) (by decide)
  obtain ⟨H2, hH2⟩ : ∃ H2, H1.push (.cells [.int .i64 1, .int .u64 2, .int .i64 0, .string (mk []), .bool false] T.api_Cell true) = H2 := ⟨_, rfl⟩
  obtain ⟨s2, n2, f2⟩ := YL hH2
  have hc : Rd ECl H2 (.slice (some ⟨H1.n, 0, none⟩) 1 2) [VL 2] := (newE (E := ECl) (l := [VL 2]) (e := T.api_Cell) (by omega) f2).1
  obtain ⟨v, H3, m3, so⟩ := q_inS bq bm bk A tries last tick 2 (by decide) _ H2 (ok1.fr s2) (r1.still s2) i1 hc
  have st := s2.trans so.still
  have r3 := r1.still st
  have hlen := so.own.rd.lenS
  have hm : ∀ a ∈ (Vr A).filter fun j => decide (j.state = 2), a ∈ A := fun a ha => V1.1 (List.mem_filter.1 ha).1
  have hll : ((Vr A).filter fun j => decide (j.state = 2)).length ≤ 1000 := by
    have := List.length_filter_le (fun j : Jb => decide (j.state = 2)) (Vr A)
    rw [Gk] at this
    have := i.len
    omega
  have hn : ((Vr A).filter fun j => decide (j.state = 2)).Pairwise fun a b => a.id ≠ b.id := by
    have hF : ((Vr A).filter fun j => decide (j.state = 2)).Pairwise fun a b => befJ a b = true := i.a.sj.sublist List.filter_sublist
    refine hF.imp_of_mem fun {a b} ha hb hab e => ?_
    have := Q4 i.a.inc (hm a ha) (hm b hb) e
    rw [this, befJ_irr] at hab
    cases hab
  obtain ⟨H4, r4, i4, u4, e4⟩ := l_pass bq bm bk tries last tick _ hll (fun j hj => i.a.ok j (hm j hj)) v H3 so.own.rd (fun b hb h => by
    have h1 := so.new b hb
    have h2 := (r1.still s2).blk (h.still (r1.still s2).mdl so.still)
    omega) _ 0 H3 A (by simp) (ok1.fr st) r3 i1 (UpQ.refl _ _ _ _) (fun j hj => Z7 i.a.inc (hm j hj)) hn
  rw [pass_fold i.a] at r4 i4
  have u14 := u1.trans (UpQ.pre r1 st u4)
  obtain ⟨H5, t1, t2, t3⟩ := QR.tidy (v := .int .i64 0) ok r r4 u14
  refine ⟨H5, (VG _ _ H (r := (.int .i64 0, H4)) ?_).trans (congrArg some t1), t2, i4, t3⟩
  generalize ((Vr A).filter fun j => decide (j.state = 2)) = L at hlen e4
  have e4 : ∀ K : K, Xo (.pointer (some ⟨bq, 0, none⟩)) (.int .i64 tick) v (.int .i64 (L.length : Int)) (.int .i64 0) H3 (YI [] 1 K) = K .normal [] H4 := e4
  simp (disch := first | with_reducible rfl | assumption | omega | rfl | (simp only [go_sem]; first | done | omega)) only [go_sem, ↓reduceIte, reduceCtorEq, Nat.reduceEqDiff, Nat.reduceAdd, Nat.reduceSub, Nat.reduceMul, Nat.reduceDiv, Nat.reduceMod, Nat.reduceLeDiff, Nat.reduceLT, Nat.reduceBEq, Int.reduceEq, Int.reduceBEq, Int.reduceBNe, Int.reduceLT, Int.reduceLE, Int.reduceAdd, Int.reduceSub, Int.reduceNeg, Int.reduceToNat, Int.reducePow, Nat.reducePow, Int.reduceMul, Int.reduceDiv, ↓Xr, ↓Ya m0, Ya m0, h1, h2, fq, h3, hH1, ↓Ya mn, Ya mn, hH2, ↓Ya m3, Ya m3, hlen, e4]
end Go.Proofs.YtmiinbhnfojnbaaDoor

set_option maxRecDepth 10000
namespace Go.Proofs.YtmiinbhnfojnbaaDoor
open Go Eng
attribute [local congr] YX YZ YR
theorem ceqs_job (a b : Jb) : ceqs a.l b.l = decide (a = b) := by
  obtain ⟨a1, a2, a3, a4, a5, a6, a7⟩ := a
  obtain ⟨b1, b2, b3, b4, b5, b6, b7⟩ := b
  have hs : (bl a3 = bl b3) = (a3 = b3) := propext ⟨fun h => Eng.bl_inj h, fun h => by rw [h]⟩
  simp only [Jb.l, ceqs, ceq, Jb.mk.injEq]
  apply Bool.eq_iff_iff.2
  simp [hs]
theorem job_eq' {ox oy : Operand} (a b : Jb) : Yf Tryd.prog .eql T.api_Job ox oy (.agg ⟨a.l⟩) (.agg ⟨b.l⟩) = some (.bool (decide (a = b))) := by
  have h := agg_eq (P := Tryd.prog) (t := T.api_Job) (xs := a.l) (ys := b.l) (ox := ox) (oy := oy) Tryd.underlying31 (by kernel_rfl) (by kernel_rfl) (by kernel_rfl) rfl rfl
  rw [h, ceqs_job]
theorem job_same {ox oy : Operand} (a : Jb) : Yf Tryd.prog .eql T.api_Job ox oy (.agg #[.int .i64 a.id, .int .i64 a.prio, .string a.body, .int .i64 a.state, .int .i64 a.tries, .int .i64 a.who, .int .i64 a.til]) (.agg #[.int .i64 a.id, .int .i64 a.prio, .string a.body, .int .i64 a.state, .int .i64 a.tries, .int .i64 a.who, .int .i64 a.til]) = some (.bool true) := by
  have := job_eq' (ox := ox) (oy := oy) a a
  rw [decide_eq_true rfl] at this
  exact this
theorem Jb.lit (a : Jb) : Value.agg ⟨a.l⟩ = .agg #[.int .i64 a.id, .int .i64 a.prio, .string a.body, .int .i64 a.state, .int .i64 a.tries, .int .i64 a.who, .int .i64 a.til] := rfl
theorem q_puts_of {H H' : AHeap} {p : Value} {prio n e : Int} {body : ByteArray} (m : CC F.jobs_Queue_Put [p, .int .i64 prio, .string body] H = some (.tuple #[.int .i64 n, .int .i64 e], H')) :
    CC F.law_puts [p, .int .i64 prio, .string body, .int .i64 n, .int .i64 e] H = some (tidy H (.bool true, H')) := by
  refine d_law_puts _ _ _ _ _ H (r := (.bool true, H')) ?_
  simp (disch := first | with_reducible rfl | assumption | omega | rfl | (simp only [go_sem]; first | done | omega)) only [go_sem, ↓reduceIte, reduceCtorEq, Nat.reduceEqDiff, Nat.reduceAdd, Nat.reduceSub, Nat.reduceMul, Nat.reduceDiv, Nat.reduceMod, Nat.reduceLeDiff, Nat.reduceLT, Nat.reduceBEq, Int.reduceEq, Int.reduceBEq, Int.reduceBNe, Int.reduceLT, Int.reduceLE, Int.reduceAdd, Int.reduceSub, Int.reduceNeg, Int.reduceToNat, Int.reducePow, Nat.reducePow, Int.reduceMul, Int.reduceDiv, ↓QW, ↓Ya m, Ya m]
theorem q_takes_of {H H1 H2 : AHeap} {p : Value} {who n e : Int} (j : Jb) (hH1 : H.push (.cells [.int .i64 j.id, .int .i64 j.prio, .string j.body, .int .i64 j.state, .int .i64 j.tries, .int .i64 j.who, .int .i64 j.til] T.api_Job true) = H1) (m : CC F.jobs_Queue_Take [p, .int .i64 who, .int .i64 n] H1 = some (.tuple #[.agg #[.int .i64 j.id, .int .i64 j.prio, .string j.body, .int .i64 j.state, .int .i64 j.tries, .int .i64 j.who, .int .i64 j.til], .int .i64 e], H2))
    (n2 : H1.n ≤ H2.n) (f2 : H2.f H.n = .cells [.int .i64 j.id, .int .i64 j.prio, .string j.body, .int .i64 j.state, .int .i64 j.tries, .int .i64 j.who, .int .i64 j.til] T.api_Job true) :
    ∃ H4, CC F.law_takes [p, .int .i64 who, .int .i64 n, .agg #[.int .i64 j.id, .int .i64 j.prio, .string j.body, .int .i64 j.state, .int .i64 j.tries, .int .i64 j.who, .int .i64 j.til], .int .i64 e] H = some (tidy H (.bool true, H4)) ∧ Yq H2 H4 := by
  obtain ⟨s1, n1, f1⟩ := YL hH1
  obtain ⟨H3, hH3⟩ : ∃ H3, H2.push (.cells [.int .i64 0, .int .i64 0, .string (Eng.mk []), .int .i64 0, .int .i64 0, .int .i64 0, .int .i64 0] T.api_Job true) = H3 := ⟨_, rfl⟩
  obtain ⟨s3, n3, f3⟩ := YL hH3
  obtain ⟨H4, hH4⟩ : ∃ H4, H3.set H2.n (.cells [.int .i64 j.id, .int .i64 j.prio, .string j.body, .int .i64 j.state, .int .i64 j.tries, .int .i64 j.who, .int .i64 j.til] T.api_Job true) = H4 := ⟨_, rfl⟩
  obtain ⟨s4, n4, f4, _⟩ := YG hH4
  have g4 : H4.f H.n = .cells [.int .i64 j.id, .int .i64 j.prio, .string j.body, .int .i64 j.state, .int .i64 j.tries, .int .i64 j.who, .int .i64 j.til] T.api_Job true := by rw [s4.f (by omega) (by omega), s3.f (by omega) fun h => h]; exact f2
  have je : ∀ ox oy, Yf Tryd.prog .eql T.api_Job ox oy (.agg #[.int .i64 j.id, .int .i64 j.prio, .string j.body, .int .i64 j.state, .int .i64 j.tries, .int .i64 j.who, .int .i64 j.til]) (.agg #[.int .i64 j.id, .int .i64 j.prio, .string j.body, .int .i64 j.state, .int .i64 j.tries, .int .i64 j.who, .int .i64 j.til]) = some (.bool true) := fun ox oy => job_same j
  refine ⟨H4, d_law_takes _ _ _ _ _ H (r := (.bool true, H4)) ?_, s3.then s4 fun b hb h => by omega⟩
  simp (disch := first | with_reducible rfl | assumption | omega | rfl | (simp only [go_sem]; first | done | omega)) only [go_sem, ↓reduceIte, reduceCtorEq, Nat.reduceEqDiff, Nat.reduceAdd, Nat.reduceSub, Nat.reduceMul, Nat.reduceDiv, Nat.reduceMod, Nat.reduceLeDiff, Nat.reduceLT, Nat.reduceBEq, Int.reduceEq, Int.reduceBEq, Int.reduceBNe, Int.reduceLT, Int.reduceLE, Int.reduceAdd, Int.reduceSub, Int.reduceNeg, Int.reduceToNat, Int.reducePow, Nat.reducePow, Int.reduceMul, Int.reduceDiv, ↓Qp, hH1, ↓Ya m, Ya m, hH3, f3, hH4, f4, g4, je]
theorem q_gets_of {H H1 H2 : AHeap} {p : Value} {id e : Int} (j : Jb) (hH1 : H.push (.cells [.int .i64 j.id, .int .i64 j.prio, .string j.body, .int .i64 j.state, .int .i64 j.tries, .int .i64 j.who, .int .i64 j.til] T.api_Job true) = H1) (m : CC F.jobs_Queue_Get [p, .int .i64 id] H1 = some (.tuple #[.agg #[.int .i64 j.id, .int .i64 j.prio, .string j.body, .int .i64 j.state, .int .i64 j.tries, .int .i64 j.who, .int .i64 j.til], .int .i64 e], H1)) :
    CC F.law_gets [p, .int .i64 id, .agg #[.int .i64 j.id, .int .i64 j.prio, .string j.body, .int .i64 j.state, .int .i64 j.tries, .int .i64 j.who, .int .i64 j.til], .int .i64 e] H = some (.bool true, H) := by
  obtain ⟨s1, n1, f1⟩ := YL hH1
  obtain ⟨H3, hH3⟩ : ∃ H3, H1.push (.cells [.int .i64 0, .int .i64 0, .string (Eng.mk []), .int .i64 0, .int .i64 0, .int .i64 0, .int .i64 0] T.api_Job true) = H3 := ⟨_, rfl⟩
  obtain ⟨s3, n3, f3⟩ := YL hH3
  obtain ⟨H4, hH4⟩ : ∃ H4, H3.set H1.n (.cells [.int .i64 j.id, .int .i64 j.prio, .string j.body, .int .i64 j.state, .int .i64 j.tries, .int .i64 j.who, .int .i64 j.til] T.api_Job true) = H4 := ⟨_, rfl⟩
  obtain ⟨s4, n4, f4, _⟩ := YG hH4
  have g4 : H4.f H.n = .cells [.int .i64 j.id, .int .i64 j.prio, .string j.body, .int .i64 j.state, .int .i64 j.tries, .int .i64 j.who, .int .i64 j.til] T.api_Job true := by rw [s4.f (by omega) (by omega), s3.f (by omega) fun h => h]; exact f1
  have je : ∀ ox oy, Yf Tryd.prog .eql T.api_Job ox oy (.agg #[.int .i64 j.id, .int .i64 j.prio, .string j.body, .int .i64 j.state, .int .i64 j.tries, .int .i64 j.who, .int .i64 j.til]) (.agg #[.int .i64 j.id, .int .i64 j.prio, .string j.body, .int .i64 j.state, .int .i64 j.tries, .int .i64 j.who, .int .i64 j.til]) = some (.bool true) := fun ox oy => job_same j
  refine Yj (H' := H4) ?_ (d_law_gets _ _ _ _ H) rfl ((s1.trans s3).then s4 fun b hb h => by omega)
  simp (disch := first | with_reducible rfl | assumption | omega | rfl | (simp only [go_sem]; first | done | omega)) only [go_sem, ↓reduceIte, reduceCtorEq, Nat.reduceEqDiff, Nat.reduceAdd, Nat.reduceSub, Nat.reduceMul, Nat.reduceDiv, Nat.reduceMod, Nat.reduceLeDiff, Nat.reduceLT, Nat.reduceBEq, Int.reduceEq, Int.reduceBEq, Int.reduceBNe, Int.reduceLT, Int.reduceLE, Int.reduceAdd, Int.reduceSub, Int.reduceNeg, Int.reduceToNat, Int.reducePow, Nat.reducePow, Int.reduceMul, Int.reduceDiv, ↓QZ, hH1, ↓Ya m, Ya m, hH3, f3, hH4, f4, g4, je]
section
variable {H : AHeap} {bq bm bk : Nat} {A : List Jb} {tries last now : Int}
structure QS (H : AHeap) (bq bm bk : Nat) (A : List Jb) (tries last now : Int) : Prop where
  ok : Ok H
  r : QR H bq bm bk A tries last now
  i : QI A tries last now
theorem QS.still {H' : AHeap} (q : QS H bq bm bk A tries last now) (s : Yq H H') : QS H' bq bm bk A tries last now := ⟨q.ok.fr s, q.r.still s, q.i⟩
theorem QS.puts (q : QS H bq bm bk A tries last now) (hl : last < 900) (prio : Int) (body : ByteArray) (h : U3 prio body = 0) :
    ∃ H', CC F.law_puts [.pointer (some ⟨bq, 0, none⟩), .int .i64 prio, .string body, .int .i64 (last + 1), .int .i64 0] H = some (.bool true, H') ∧ QS H' bq bm bk (A ++ [newJ (last + 1) prio body]) tries (last + 1) now ∧ UpQ H bq bm bk H' := by
  have hb : ¬ (prio < 0 ∨ 9 < prio) := fun c => by unfold U3 at h; rw [if_pos c] at h; cases h
  have hc : ¬ 15 < (bl body).length := fun c => by unfold U3 at h; rw [if_neg hb, if_pos c] at h; cases h
  obtain ⟨H1, m1, r1, u1⟩ := q_QPut bq bm bk A tries last now prio body H q.ok q.r q.i hl (by omega) (by omega)
  obtain ⟨H2, t1, t2, t3⟩ := QR.tidy (v := .bool true) q.ok q.r r1 u1
  have hll := q.i.l
  have ht := q.i.t
  refine ⟨H2, (q_puts_of m1).trans (congrArg some t1), ⟨q.ok.fr t3.fr, t2, q.i.a.put (newJ_ok (by omega) (by omega) (by omega)) rfl, q.i.t, by omega, q.i.n, fun a ha hs => ?_⟩, t3⟩
  rcases List.mem_append.1 ha with h1 | h1
  · exact q.i.w a h1 hs
  · rw [List.mem_singleton.1 h1]; show (0 : Int) < tries; omega
theorem QS.putsBad (q : QS H bq bm bk A tries last now) (prio : Int) (body : ByteArray) (h : U3 prio body ≠ 0) :
    CC F.law_puts [.pointer (some ⟨bq, 0, none⟩), .int .i64 prio, .string body, .int .i64 0, .int .i64 (U3 prio body)] H = some (.bool true, H) := by
  rw [q_puts_of (q_QPut_bad bq bm bk A tries last now prio body H q.r h), tidy_same rfl (Fr.refl H)]
theorem QS.gets (q : QS H bq bm bk A tries last now) (id : Int) (j : Jb) (h : fnd A id = some j) : CC F.law_gets [.pointer (some ⟨bq, 0, none⟩), .int .i64 id, .agg #[.int .i64 j.id, .int .i64 j.prio, .string j.body, .int .i64 j.state, .int .i64 j.tries, .int .i64 j.who, .int .i64 j.til], .int .i64 0] H = some (.bool true, H) := by
  obtain ⟨H1, hH1⟩ : ∃ H1, H.push (.cells [.int .i64 j.id, .int .i64 j.prio, .string j.body, .int .i64 j.state, .int .i64 j.tries, .int .i64 j.who, .int .i64 j.til] T.api_Job true) = H1 := ⟨_, rfl⟩
  obtain ⟨s1, n1, f1⟩ := YL hH1
  have m := q_QGet bq bm bk A tries last now id H1 (q.ok.fr s1) (q.r.still s1) q.i
  rw [h] at m
  exact q_gets_of (H2 := H1) j hH1 m
theorem QS.takes (q : QS H bq bm bk A tries last now) (who n : Int) (j : Jb) (t : List Jb) (h : Q1 A now who n = 0) (hj : UX A = j :: t) :
    ∃ H', CC F.law_takes [.pointer (some ⟨bq, 0, none⟩), .int .i64 who, .int .i64 n, .agg ⟨(UA j now who n).l⟩, .int .i64 0] H = some (.bool true, H') ∧ QS H' bq bm bk (Vz A (UA j now who n)) tries last now ∧ UpQ H bq bm bk H' := by
  generalize hx : UA j now who n = x
  obtain ⟨H1, hH1⟩ : ∃ H1, H.push (.cells [.int .i64 x.id, .int .i64 x.prio, .string x.body, .int .i64 x.state, .int .i64 x.tries, .int .i64 x.who, .int .i64 x.til] T.api_Job true) = H1 := ⟨_, rfl⟩
  obtain ⟨s1, n1, f1⟩ := YL hH1
  obtain ⟨H2, m2, r2, i2, u2⟩ := q_QTake bq bm bk A tries last now who n j t H1 (q.ok.fr s1) (q.r.still s1) q.i h hj
  rw [hx] at m2 r2 i2
  have hn : ¬ QB H1 bq bm bk H.n := fun h => by have := q.r.blk (h.still q.r.mdl s1); omega
  obtain ⟨H4, m4, s4⟩ := q_takes_of x hH1 m2 u2.fr.n (by rw [u2.fr.f (by omega) hn]; exact f1)
  obtain ⟨H5, t1, t2, t3⟩ := QR.tidy (v := .bool true) q.ok q.r (r2.still s4) ((UpQ.pre q.r s1 u2).trans (UpQ.of_still r2 s4))
  exact ⟨H5, m4.trans (congrArg some t1), ⟨q.ok.fr t3.fr, t2, i2⟩, t3⟩
theorem QS.takesBad (q : QS H bq bm bk A tries last now) (who n : Int) (h : Q1 A now who n ≠ 0) :
    CC F.law_takes [.pointer (some ⟨bq, 0, none⟩), .int .i64 who, .int .i64 n, .agg #[.int .i64 0, .int .i64 0, .string (Eng.mk []), .int .i64 0, .int .i64 0, .int .i64 0, .int .i64 0], .int .i64 (Q1 A now who n)] H = some (.bool true, H) := by
  obtain ⟨H1, hH1⟩ : ∃ H1, H.push (.cells [.int .i64 0, .int .i64 0, .string (Eng.mk []), .int .i64 0, .int .i64 0, .int .i64 0, .int .i64 0] T.api_Job true) = H1 := ⟨_, rfl⟩
  obtain ⟨s1, n1, f1⟩ := YL hH1
  have m2 := q_QTake_bad bq bm bk A tries last now who n H1 (q.ok.fr s1) (q.r.still s1) q.i h
  obtain ⟨H4, m4, s4⟩ := q_takes_of Z0 hH1 m2 (Nat.le_refl _) f1
  exact m4.trans (congrArg some (tidy_same rfl (s1.trans s4)))
theorem QS.finish (q : QS H bq bm bk A tries last now) (who id : Int) (h : V3 A who id = 0) :
    ∃ H', CC F.jobs_Queue_Finish [.pointer (some ⟨bq, 0, none⟩), .int .i64 who, .int .i64 id] H = some (.int .i64 0, H') ∧ QS H' bq bm bk (delJ A id) tries last now ∧ UpQ H bq bm bk H' := by
  obtain ⟨H1, m1, r1, u1⟩ := q_QFinish bq bm bk A tries last now who id H q.ok q.r q.i h
  exact ⟨H1, m1, ⟨q.ok.fr u1.fr, r1, q.i.a.del id, q.i.t, q.i.l, q.i.n, fun a ha => q.i.w a (Wb.1 ha).1⟩, u1⟩
theorem QS.finishBad (q : QS H bq bm bk A tries last now) (who id : Int) (h : V3 A who id ≠ 0) :
    CC F.jobs_Queue_Finish [.pointer (some ⟨bq, 0, none⟩), .int .i64 who, .int .i64 id] H = some (.int .i64 (V3 A who id), H) :=
  q_QFinish_err _ who id _ h H (q_Qtaken_bad bq bm bk A tries last now who id H q.ok q.r q.i h)
theorem QS.back (q : QS H bq bm bk A tries last now) (who id : Int) (j : Jb) (h : V3 A who id = 0) (hf : fnd A id = some j) :
    ∃ H', CC F.jobs_Queue_Back [.pointer (some ⟨bq, 0, none⟩), .int .i64 who, .int .i64 id] H = some (.int .i64 0, H') ∧ QS H' bq bm bk (Vz A (Wk tries j)) tries last now ∧ UpQ H bq bm bk H' := by
  obtain ⟨H1, m1, r1, i1, u1⟩ := q_QBack bq bm bk A tries last now who id j H q.ok q.r q.i h hf
  exact ⟨H1, m1, ⟨q.ok.fr u1.fr, r1, i1⟩, u1⟩
theorem QS.backBad (q : QS H bq bm bk A tries last now) (who id : Int) (h : V3 A who id ≠ 0) :
    CC F.jobs_Queue_Back [.pointer (some ⟨bq, 0, none⟩), .int .i64 who, .int .i64 id] H = some (.int .i64 (V3 A who id), H) :=
  q_QBack_err _ who id _ h H (q_Qtaken_bad bq bm bk A tries last now who id H q.ok q.r q.i h)
theorem QS.revive (q : QS H bq bm bk A tries last now) (id : Int) (j : Jb) (hf : fnd A id = some j) (c : j.state = 3) :
    ∃ H', CC F.jobs_Queue_Revive [.pointer (some ⟨bq, 0, none⟩), .int .i64 id] H = some (.int .i64 0, H') ∧ QS H' bq bm bk (Vz A (Zl j)) tries last now ∧ UpQ H bq bm bk H' := by
  obtain ⟨H1, m1, r1, i1, u1⟩ := q_QRevive bq bm bk A tries last now id j H q.ok q.r q.i hf c
  exact ⟨H1, m1, ⟨q.ok.fr u1.fr, r1, i1⟩, u1⟩
theorem QS.pass (q : QS H bq bm bk A tries last now) (tick : Int) (h : passE now tick = 0) :
    ∃ H', CC F.jobs_Queue_Pass [.pointer (some ⟨bq, 0, none⟩), .int .i64 tick] H = some (.int .i64 0, H') ∧ QS H' bq bm bk (passJ A tries tick) tries last tick ∧ UpQ H bq bm bk H' := by
  obtain ⟨H1, m1, r1, i1, u1⟩ := q_QPass bq bm bk A tries last now tick H q.ok q.r q.i h
  exact ⟨H1, m1, ⟨q.ok.fr u1.fr, r1, i1⟩, u1⟩
end
theorem q_ltaken (id prio : Int) (body : ByteArray) (tr who til : Int) (H : AHeap) : CC F.law_taken [.int .i64 id, .int .i64 prio, .string body, .int .i64 tr, .int .i64 who, .int .i64 til] H = some (.agg #[.int .i64 id, .int .i64 prio, .string body, .int .i64 2, .int .i64 tr, .int .i64 who, .int .i64 til], H) := by
  obtain ⟨H1, hH1⟩ : ∃ H1, H.push (.cells [.int .i64 0, .int .i64 0, .string (Eng.mk []), .int .i64 0, .int .i64 0, .int .i64 0, .int .i64 0] T.api_Job true) = H1 := ⟨_, rfl⟩
  obtain ⟨s1, n1, f1⟩ := YL hH1
  obtain ⟨H2, hH2⟩ : ∃ H2, H1.set H.n (.cells [.int .i64 id, .int .i64 prio, .string body, .int .i64 2, .int .i64 tr, .int .i64 who, .int .i64 til] T.api_Job true) = H2 := ⟨_, rfl⟩
  obtain ⟨s2, n2, f2, _⟩ := YG hH2
  refine Yj (H' := H2) ?_ (d_law_taken _ _ _ _ _ _ H) rfl (s1.then s2 fun b hb h => by omega)
  simp (disch := first | with_reducible rfl | assumption | omega | rfl | (simp only [go_sem]; first | done | omega)) only [go_sem, ↓reduceIte, reduceCtorEq, Nat.reduceEqDiff, Nat.reduceAdd, Nat.reduceSub, Nat.reduceMul, Nat.reduceDiv, Nat.reduceMod, Nat.reduceLeDiff, Nat.reduceLT, Nat.reduceBEq, Int.reduceEq, Int.reduceBEq, Int.reduceBNe, Int.reduceLT, Int.reduceLE, Int.reduceAdd, Int.reduceSub, Int.reduceNeg, Int.reduceToNat, Int.reducePow, Nat.reducePow, Int.reduceMul, Int.reduceDiv, ↓Qq, hH1, f1, hH2, f2, XD]
end Go.Proofs.YtmiinbhnfojnbaaDoor

set_option maxRecDepth 10000
namespace Go.Proofs.YtmiinbhnfojnbaaDoor
open Go Eng
attribute [local congr] YX YZ YR
def kn0 : List Jb := []
def kn1 : List Jb := [⟨1, 3, Eng.mk [97], 1, 0, 0, 0⟩]
def kn2 : List Jb := [⟨1, 3, Eng.mk [97], 1, 0, 0, 0⟩, ⟨2, 7, Eng.mk [98], 1, 0, 0, 0⟩]
def kn3 : List Jb := [⟨1, 3, Eng.mk [97], 1, 0, 0, 0⟩, ⟨2, 7, Eng.mk [98], 1, 0, 0, 0⟩, ⟨3, 3, Eng.mk [99], 1, 0, 0, 0⟩]
def kn4 : List Jb := [⟨1, 3, Eng.mk [97], 1, 0, 0, 0⟩, ⟨2, 7, Eng.mk [98], 2, 1, 5, 10⟩, ⟨3, 3, Eng.mk [99], 1, 0, 0, 0⟩]
def kn5 : List Jb := [⟨1, 3, Eng.mk [97], 2, 1, 6, 4⟩, ⟨2, 7, Eng.mk [98], 2, 1, 5, 10⟩, ⟨3, 3, Eng.mk [99], 1, 0, 0, 0⟩]
def kn6 : List Jb := [⟨1, 3, Eng.mk [97], 2, 1, 6, 4⟩, ⟨3, 3, Eng.mk [99], 1, 0, 0, 0⟩]
def kn7 : List Jb := [⟨1, 3, Eng.mk [97], 1, 1, 0, 0⟩, ⟨3, 3, Eng.mk [99], 1, 0, 0, 0⟩]
def kn8 : List Jb := [⟨1, 3, Eng.mk [97], 2, 2, 6, 4⟩, ⟨3, 3, Eng.mk [99], 1, 0, 0, 0⟩]
def kn9 : List Jb := [⟨1, 3, Eng.mk [97], 3, 2, 0, 0⟩, ⟨3, 3, Eng.mk [99], 1, 0, 0, 0⟩]
def kn10 : List Jb := [⟨1, 3, Eng.mk [97], 3, 2, 0, 0⟩, ⟨3, 3, Eng.mk [99], 2, 1, 9, 5⟩]
def kn11 : List Jb := [⟨1, 3, Eng.mk [97], 1, 0, 0, 0⟩, ⟨3, 3, Eng.mk [99], 2, 1, 9, 5⟩]
set_option maxHeartbeats 4000000 in
theorem k_known (H : AHeap) (ok : Ok H) : CC F.law_known [] H = some (.bool true, H) := by
  obtain ⟨bq, bm, bk, H0, m0, r0, i0, s0, new0⟩ := q_QNew 2 H (by decide)
  have q0 : QS H0 bq bm bk kn0 2 0 0 := ⟨ok.fr s0, r0, i0⟩
  obtain ⟨H1, m1, q1, u1⟩ : ∃ H', CC F.law_puts [.pointer (some ⟨bq, 0, none⟩), .int .i64 3, .string (Eng.mk [97]), .int .i64 1, .int .i64 0] H0 = some (.bool true, H') ∧ QS H' bq bm bk kn1 2 1 0 ∧ UpQ H0 bq bm bk H' := q0.puts (by decide) 3 (Eng.mk [97]) (by kernel_rfl)
  obtain ⟨H2, m2, q2, u2⟩ : ∃ H', CC F.law_puts [.pointer (some ⟨bq, 0, none⟩), .int .i64 7, .string (Eng.mk [98]), .int .i64 2, .int .i64 0] H1 = some (.bool true, H') ∧ QS H' bq bm bk kn2 2 2 0 ∧ UpQ H1 bq bm bk H' := q1.puts (by decide) 7 (Eng.mk [98]) (by kernel_rfl)
  obtain ⟨H3, m3, q3, u3⟩ : ∃ H', CC F.law_puts [.pointer (some ⟨bq, 0, none⟩), .int .i64 3, .string (Eng.mk [99]), .int .i64 3, .int .i64 0] H2 = some (.bool true, H') ∧ QS H' bq bm bk kn3 2 3 0 ∧ UpQ H2 bq bm bk H' := q2.puts (by decide) 3 (Eng.mk [99]) (by kernel_rfl)
  obtain ⟨H4, m4, q4, u4⟩ : ∃ H', CC F.law_takes [.pointer (some ⟨bq, 0, none⟩), .int .i64 5, .int .i64 10, .agg #[.int .i64 2, .int .i64 7, .string (Eng.mk [98]), .int .i64 2, .int .i64 1, .int .i64 5, .int .i64 10], .int .i64 0] H3 = some (.bool true, H') ∧ QS H' bq bm bk kn4 2 3 0 ∧ UpQ H3 bq bm bk H' := q3.takes 5 10 ⟨2, 7, Eng.mk [98], 1, 0, 0, 0⟩ [⟨1, 3, Eng.mk [97], 1, 0, 0, 0⟩, ⟨3, 3, Eng.mk [99], 1, 0, 0, 0⟩] (by kernel_rfl) (by kernel_rfl)
  obtain ⟨H5, m5, q5, u5⟩ : ∃ H', CC F.law_takes [.pointer (some ⟨bq, 0, none⟩), .int .i64 6, .int .i64 4, .agg #[.int .i64 1, .int .i64 3, .string (Eng.mk [97]), .int .i64 2, .int .i64 1, .int .i64 6, .int .i64 4], .int .i64 0] H4 = some (.bool true, H') ∧ QS H' bq bm bk kn5 2 3 0 ∧ UpQ H4 bq bm bk H' := q4.takes 6 4 ⟨1, 3, Eng.mk [97], 1, 0, 0, 0⟩ [⟨3, 3, Eng.mk [99], 1, 0, 0, 0⟩] (by kernel_rfl) (by kernel_rfl)
  obtain ⟨H6, m6, q6, u6⟩ : ∃ H', CC F.jobs_Queue_Finish [.pointer (some ⟨bq, 0, none⟩), .int .i64 5, .int .i64 2] H5 = some (.int .i64 0, H') ∧ QS H' bq bm bk kn6 2 3 0 ∧ UpQ H5 bq bm bk H' := q5.finish 5 2 (by kernel_rfl)
  have x6 : CC F.jobs_Queue_Finish [.pointer (some ⟨bq, 0, none⟩), .int .i64 5, .int .i64 1] H6 = some (.int .i64 8, H6) := q6.finishBad 5 1 (by decide)
  obtain ⟨H7, m7, q7, u7⟩ : ∃ H', CC F.jobs_Queue_Back [.pointer (some ⟨bq, 0, none⟩), .int .i64 6, .int .i64 1] H6 = some (.int .i64 0, H') ∧ QS H' bq bm bk kn7 2 3 0 ∧ UpQ H6 bq bm bk H' := q6.back 6 1 ⟨1, 3, Eng.mk [97], 2, 1, 6, 4⟩ (by kernel_rfl) (by kernel_rfl)
  obtain ⟨H8, m8, q8, u8⟩ : ∃ H', CC F.law_takes [.pointer (some ⟨bq, 0, none⟩), .int .i64 6, .int .i64 4, .agg #[.int .i64 1, .int .i64 3, .string (Eng.mk [97]), .int .i64 2, .int .i64 2, .int .i64 6, .int .i64 4], .int .i64 0] H7 = some (.bool true, H') ∧ QS H' bq bm bk kn8 2 3 0 ∧ UpQ H7 bq bm bk H' := q7.takes 6 4 ⟨1, 3, Eng.mk [97], 1, 1, 0, 0⟩ [⟨3, 3, Eng.mk [99], 1, 0, 0, 0⟩] (by kernel_rfl) (by kernel_rfl)
  obtain ⟨H9, m9, q9, u9⟩ : ∃ H', CC F.jobs_Queue_Pass [.pointer (some ⟨bq, 0, none⟩), .int .i64 4] H8 = some (.int .i64 0, H') ∧ QS H' bq bm bk kn9 2 3 4 ∧ UpQ H8 bq bm bk H' := q8.pass 4 (by kernel_rfl)
  have x9 : CC F.law_gets [.pointer (some ⟨bq, 0, none⟩), .int .i64 1, .agg #[.int .i64 1, .int .i64 3, .string (Eng.mk [97]), .int .i64 3, .int .i64 2, .int .i64 0, .int .i64 0], .int .i64 0] H9 = some (.bool true, H9) := q9.gets 1 ⟨1, 3, Eng.mk [97], 3, 2, 0, 0⟩ (by kernel_rfl)
  obtain ⟨H10, m10, q10, u10⟩ : ∃ H', CC F.law_takes [.pointer (some ⟨bq, 0, none⟩), .int .i64 9, .int .i64 1, .agg #[.int .i64 3, .int .i64 3, .string (Eng.mk [99]), .int .i64 2, .int .i64 1, .int .i64 9, .int .i64 5], .int .i64 0] H9 = some (.bool true, H') ∧ QS H' bq bm bk kn10 2 3 4 ∧ UpQ H9 bq bm bk H' := q9.takes 9 1 ⟨3, 3, Eng.mk [99], 1, 0, 0, 0⟩ [] (by kernel_rfl) (by kernel_rfl)
  have x10 : CC F.law_takes [.pointer (some ⟨bq, 0, none⟩), .int .i64 9, .int .i64 1, .agg #[.int .i64 0, .int .i64 0, .string (Eng.mk []), .int .i64 0, .int .i64 0, .int .i64 0, .int .i64 0], .int .i64 9] H10 = some (.bool true, H10) := q10.takesBad 9 1 (by decide)
  obtain ⟨H11, m11, q11, u11⟩ : ∃ H', CC F.jobs_Queue_Revive [.pointer (some ⟨bq, 0, none⟩), .int .i64 1] H10 = some (.int .i64 0, H') ∧ QS H' bq bm bk kn11 2 3 4 ∧ UpQ H10 bq bm bk H' := q10.revive 1 ⟨1, 3, Eng.mk [97], 3, 2, 0, 0⟩ (by kernel_rfl) rfl
  have x11 : CC F.law_gets [.pointer (some ⟨bq, 0, none⟩), .int .i64 1, .agg #[.int .i64 1, .int .i64 3, .string (Eng.mk [97]), .int .i64 1, .int .i64 0, .int .i64 0, .int .i64 0], .int .i64 0] H11 = some (.bool true, H11) := q11.gets 1 ⟨1, 3, Eng.mk [97], 1, 0, 0, 0⟩ (by kernel_rfl)
  have y11 : CC F.jobs_Queue_Pass [.pointer (some ⟨bq, 0, none⟩), .int .i64 3] H11 = some (.int .i64 14, H11) := q_QPass_bad bq bm bk kn11 2 3 4 3 H11 q11.r (by decide)
  have z11 : CC F.law_puts [.pointer (some ⟨bq, 0, none⟩), .int .i64 10, .string (Eng.mk [120]), .int .i64 0, .int .i64 2] H11 = some (.bool true, H11) := q11.putsBad 10 (Eng.mk [120]) (by decide)
  obtain ⟨v, H12, m12, so⟩ := q_QJobs bq bm bk kn11 2 3 4 H11 q11.ok q11.r q11.i
  have hs : Vr kn11 = kn11 := by kernel_rfl
  rw [hs] at so
  have hl : lenS v = some (.int .i64 2) := so.own.rd.lenS
  obtain ⟨b0, o0, ix0, _, c0, _⟩ := rd_job so.own.rd (i := 0) (by decide)
  obtain ⟨b1, o1, ix1, _, c1, _⟩ := rd_job so.own.rd (i := 1) (by decide)
  have ix0 : ixS 7 v (.int .i64 0) = some (.pointer (some ⟨b0, o0, none⟩)) := ix0
  have ix1 : ixS 7 v (.int .i64 1) = some (.pointer (some ⟨b1, o1, none⟩)) := ix1
  have e0 : X4 (H12.f b0) o0 = some (.int .i64 1) := X2 c0 (i := 0) (by decide)
  have e1 : X4 (H12.f b1) o1 = some (.int .i64 3) := X2 c1 (i := 0) (by decide)
  have t1 := fun H => q_ltaken 2 7 (Eng.mk [98]) 1 5 10 H
  have t2 := fun H => q_ltaken 1 3 (Eng.mk [97]) 1 6 4 H
  have t3 := fun H => q_ltaken 1 3 (Eng.mk [97]) 2 6 4 H
  have t4 := fun H => q_ltaken 3 3 (Eng.mk [99]) 1 9 5 H
  have U : UpQ H0 bq bm bk H11 := ((((((((((u1.trans u2).trans u3).trans u4).trans u5).trans u6).trans u7).trans u8).trans u9).trans u10).trans u11)
  have st : Yq H H12 := ((s0.then U.fr fun b hb h => by have := new0 b h; omega).trans so.still)
  refine Yj (H' := H12) ?_ (d_law_known H) rfl st
  simp (disch := first | with_reducible rfl | assumption | omega | rfl | (simp only [go_sem]; first | done | omega)) only [go_sem, ↓reduceIte, reduceCtorEq, Nat.reduceEqDiff, Nat.reduceAdd, Nat.reduceSub, Nat.reduceMul, Nat.reduceDiv, Nat.reduceMod, Nat.reduceLeDiff, Nat.reduceLT, Nat.reduceBEq, Int.reduceEq, Int.reduceBEq, Int.reduceBNe, Int.reduceLT, Int.reduceLE, Int.reduceAdd, Int.reduceSub, Int.reduceNeg, Int.reduceToNat, Int.reducePow, Nat.reducePow, Int.reduceMul, Int.reduceDiv, ↓Qn, ↓Ya m0, Ya m0, ↓Ya m1, Ya m1, ↓Ya m2, Ya m2, ↓Ya m3, Ya m3, Ya (t1 _), ↓Ya m4, Ya m4, Ya (t2 _), ↓Ya m5, Ya m5, ↓Ya m6, Ya m6, ↓Ya x6, Ya x6, ↓Ya m7, Ya m7, Ya (t3 _), ↓Ya m8, Ya m8, ↓Ya m9, Ya m9, ↓Ya x9, Ya x9, Ya (t4 _), ↓Ya m10, Ya m10, ↓Ya x10, Ya x10, ↓Ya m11, Ya m11, ↓Ya x11, Ya x11, ↓Ya y11, Ya y11, ↓Ya z11, Ya z11, ↓Ya m12, Ya m12, hl, ix0, ix1, e0, e1]
end Go.Proofs.YtmiinbhnfojnbaaDoor

set_option maxRecDepth 10000
namespace Go.Proofs.YtmiinbhnfojnbaaDoor
open Go Eng
attribute [local congr] YX YZ YR
structure Act where
  what : Int
  who : Int
  n : Int
  body : ByteArray
def EAct : Enc Act := ⟨4, fun a => [.int .i64 a.what, .int .i64 a.who, .int .i64 a.n, .string a.body], fun _ => rfl, by decide, fun _ => rfl⟩
theorem Gr {H : AHeap} {v : Value} {l : List Act} (r : Rd EAct H v l) {i : Nat} (hi : i < l.length) : ∃ b o, ixS 4 v (.int .i64 (i : Int)) = some (.pointer (some ⟨b, o, none⟩)) ∧ b < H.n ∧ UT (H.f b) o 4 = some [.int .i64 l[i].what, .int .i64 l[i].who, .int .i64 l[i].n, .string l[i].body] := by
  obtain ⟨b, o, h1, h2, h3, _⟩ := r.ix (q := .i64) hi
  exact ⟨b, o, h1, h2, h3⟩
theorem decAct {W : World} {H : Type} {enc : TypeId × Value → H} {p : Prop} (_ : p) {cs : List Value} {n : Nat} {y : DataW H × List MemPlace} (h : DataW.trod enc Tryd.prog W 0 (fun _ => true) true n T.law_Act cs = some y) (hl : cs.length = EAct.w) :
    ∃ a : Act, cs.map (UN W.heap.size) = EAct.enc a ∧ (-9223372036854775808 ≤ a.n ∧ a.n ≤ 9223372036854775807) := by
  have ht := Tryd.underlying40
  obtain ⟨c0, c1, c2, c3, rfl⟩ : ∃ c0 c1 c2 c3, cs = [c0, c1, c2, c3] := by
    match cs, hl with
    | [c0, c1, c2, c3], _ => exact ⟨_, _, _, _, rfl⟩
  obtain ⟨m0, z0, h0⟩ := dec_field ht h (i := 0) rfl rfl (by kernel_rfl) rfl
  obtain ⟨m1, z1, h1⟩ := dec_field ht h (i := 1) rfl rfl (by kernel_rfl) rfl
  obtain ⟨m2, z2, h2⟩ := dec_field ht h (i := 2) rfl rfl (by kernel_rfl) rfl
  obtain ⟨m3, z3, h3⟩ := dec_field ht h (i := 3) rfl rfl (by kernel_rfl) rfl
  obtain ⟨s0, rfl, _⟩ := dec_int Tryd.underlying3 h0
  obtain ⟨s1, rfl, _⟩ := dec_int Tryd.underlying3 h1
  obtain ⟨s2, rfl, w2⟩ := dec_int Tryd.underlying3 h2
  obtain ⟨s3, rfl, _⟩ := dec_str Tryd.underlying9 h3
  refine ⟨⟨s0, s1, s2, s3⟩, rfl, ?_⟩
  simp [Lit.wf, IntKind.min, IntKind.max, IntKind.signed, IntKind.bits] at w2
  omega
def shortA (a : Act) : Bool := decide ((bl a.body).length ≤ 20)
def smallA (l : List Act) (most : Nat) : Bool := (l.take most).all shortA && decide (l.length ≤ most)
theorem l_small (l : List Act) (most : Nat) (hm : most ≤ 1000) (v : Value) (H : AHeap) (hr : Rd EAct H v l) : ∀ (t : List Act) (i : Nat), (l.take most).drop i = t → i ≤ most →
    (t.all shortA = false → ∀ K : K, X7 v (.int .i64 (most : Int)) (.int .i64 (i : Int)) H (YI [0, 1] 0 K) = K .ret [(4, .bool false)] H) ∧
    (t.all shortA = true → ∀ K : K, X7 v (.int .i64 (most : Int)) (.int .i64 (i : Int)) H (YI [0, 1] 0 K) = K .normal [(0, v), (1, .int .i64 (most : Int))] H)
  | [], i, hx, hi => by
    have h : (l.take most).length ≤ i := List.drop_eq_nil_iff.1 hx
    rw [List.length_take] at h
    have hlen := hr.lenS
    refine ⟨fun h => by simp at h, fun _ K => ?_⟩
    by_cases h1 : i < l.length
    · have h2 : i = most := by omega
      have hlt : (i : Int) < (l.length : Int) := by omega
      have hlt2 : ¬ (i : Int) < (most : Int) := by omega
      rw [V7]
      simp (disch := first | with_reducible rfl | assumption | omega | rfl | (simp only [go_sem]; first | done | omega)) only [go_sem, ↓reduceIte, reduceCtorEq, Nat.reduceEqDiff, Nat.reduceAdd, Nat.reduceSub, Nat.reduceMul, Nat.reduceDiv, Nat.reduceMod, Nat.reduceLeDiff, Nat.reduceLT, Nat.reduceBEq, Int.reduceEq, Int.reduceBEq, Int.reduceBNe, Int.reduceLT, Int.reduceLE, Int.reduceAdd, Int.reduceSub, Int.reduceNeg, Int.reduceToNat, Int.reducePow, Nat.reducePow, Int.reduceMul, Int.reduceDiv, ↓WD, hlen, hlt, hlt2]
    · have hlt : ¬ (i : Int) < (l.length : Int) := by omega
      rw [V7]
      simp (disch := first | with_reducible rfl | assumption | omega | rfl | (simp only [go_sem]; first | done | omega)) only [go_sem, ↓reduceIte, reduceCtorEq, Nat.reduceEqDiff, Nat.reduceAdd, Nat.reduceSub, Nat.reduceMul, Nat.reduceDiv, Nat.reduceMod, Nat.reduceLeDiff, Nat.reduceLT, Nat.reduceBEq, Int.reduceEq, Int.reduceBEq, Int.reduceBNe, Int.reduceLT, Int.reduceLE, Int.reduceAdd, Int.reduceSub, Int.reduceNeg, Int.reduceToNat, Int.reducePow, Nat.reducePow, Int.reduceMul, Int.reduceDiv, ↓WD, hlen, hlt]
  | a :: t, i, hx, hi => by
    obtain ⟨h, hxa, hx'⟩ := WB hx
    rw [List.length_take] at h
    have hlen := hr.lenS
    have hlt : (i : Int) < (l.length : Int) := by omega
    have hlt2 : (i : Int) < (most : Int) := by omega
    obtain ⟨b, o, ix, lb, cb⟩ := Gr hr (i := i) (by omega)
    have hel : l[i]'(by omega) = a := by rw [← hxa, List.getElem_take]
    rw [hel] at cb
    have c3 : X4 (H.f b) (o + 3) = some (.string a.body) := X2 cb (i := 3) (by decide)
    have e1 : ((i : Int) + 1) = ((i + 1 : Nat) : Int) := by omega
    obtain ⟨k1, k2⟩ := l_small l most hm v H hr t (i + 1) hx' (by omega)
    by_cases hs : (bl a.body).length ≤ 20
    · have hs1 : shortA a = true := decide_eq_true hs
      have hs2 : ¬ (20 : Int) < ((bl a.body).length : Int) := by omega
      refine ⟨fun h K => ?_, fun h K => ?_⟩
      · rw [List.all_cons, hs1, Bool.true_and] at h
        have := k1 h K
        rw [← e1] at this
        rw [V7]
        simp (disch := first | with_reducible rfl | assumption | omega | rfl | (simp only [go_sem]; first | done | omega)) only [go_sem, ↓reduceIte, reduceCtorEq, Nat.reduceEqDiff, Nat.reduceAdd, Nat.reduceSub, Nat.reduceMul, Nat.reduceDiv, Nat.reduceMod, Nat.reduceLeDiff, Nat.reduceLT, Nat.reduceBEq, Int.reduceEq, Int.reduceBEq, Int.reduceBNe, Int.reduceLT, Int.reduceLE, Int.reduceAdd, Int.reduceSub, Int.reduceNeg, Int.reduceToNat, Int.reducePow, Nat.reducePow, Int.reduceMul, Int.reduceDiv, ↓WD, hlen, hlt, hlt2, ix, c3, hs2]
        exact this
      · rw [List.all_cons, hs1, Bool.true_and] at h
        have := k2 h K
        rw [← e1] at this
        rw [V7]
        simp (disch := first | with_reducible rfl | assumption | omega | rfl | (simp only [go_sem]; first | done | omega)) only [go_sem, ↓reduceIte, reduceCtorEq, Nat.reduceEqDiff, Nat.reduceAdd, Nat.reduceSub, Nat.reduceMul, Nat.reduceDiv, Nat.reduceMod, Nat.reduceLeDiff, Nat.reduceLT, Nat.reduceBEq, Int.reduceEq, Int.reduceBEq, Int.reduceBNe, Int.reduceLT, Int.reduceLE, Int.reduceAdd, Int.reduceSub, Int.reduceNeg, Int.reduceToNat, Int.reducePow, Nat.reducePow, Int.reduceMul, Int.reduceDiv, ↓WD, hlen, hlt, hlt2, ix, c3, hs2]
        exact this
    · have hs1 : shortA a = false := decide_eq_false hs
      have hs2 : (20 : Int) < ((bl a.body).length : Int) := by omega
      refine ⟨fun h K => ?_, fun h => by rw [List.all_cons, hs1] at h; cases h⟩
      rw [V7]
      simp (disch := first | with_reducible rfl | assumption | omega | rfl | (simp only [go_sem]; first | done | omega)) only [go_sem, ↓reduceIte, reduceCtorEq, Nat.reduceEqDiff, Nat.reduceAdd, Nat.reduceSub, Nat.reduceMul, Nat.reduceDiv, Nat.reduceMod, Nat.reduceLeDiff, Nat.reduceLT, Nat.reduceBEq, Int.reduceEq, Int.reduceBEq, Int.reduceBNe, Int.reduceLT, Int.reduceLE, Int.reduceAdd, Int.reduceSub, Int.reduceNeg, Int.reduceToNat, Int.reducePow, Nat.reducePow, Int.reduceMul, Int.reduceDiv, ↓WD, hlen, hlt, hlt2, ix, c3, hs2]
theorem q_small (l : List Act) (most : Nat) (hm : most ≤ 1000) (v : Value) (H : AHeap) (hr : Rd EAct H v l) : CC F.law_small [v, .int .i64 (most : Int)] H = some (.bool (smallA l most), H) := by
  obtain ⟨k1, k2⟩ := l_small l most hm v H hr (l.take most) 0 rfl (by omega)
  have hlen := hr.lenS
  unfold smallA
  cases ha : (l.take most).all shortA with
  | false =>
    have k1 : ∀ K : K, X7 v (.int .i64 (most : Int)) (.int .i64 0) H (YI [0, 1] 0 K) = K .ret [(4, .bool false)] H := k1 ha
    rw [Bool.false_and]
    apply Yj _ (d_law_small _ _ H) rfl
    rotate_left 2
    · simp (disch := first | with_reducible rfl | assumption | omega | rfl | (simp only [go_sem]; first | done | omega)) only [go_sem, ↓reduceIte, reduceCtorEq, Nat.reduceEqDiff, Nat.reduceAdd, Nat.reduceSub, Nat.reduceMul, Nat.reduceDiv, Nat.reduceMod, Nat.reduceLeDiff, Nat.reduceLT, Nat.reduceBEq, Int.reduceEq, Int.reduceBEq, Int.reduceBNe, Int.reduceLT, Int.reduceLE, Int.reduceAdd, Int.reduceSub, Int.reduceNeg, Int.reduceToNat, Int.reducePow, Nat.reducePow, Int.reduceMul, Int.reduceDiv, ↓Ux, k1]
      rfl
    · (repeat (first | exact Fr.refl _ | refine Fr.push ?_ _ | refine Fr.set ?_ _ _ (by intro h; first | omega | (simp only [go_sem] at h; omega))))
  | true =>
    have k2 : ∀ K : K, X7 v (.int .i64 (most : Int)) (.int .i64 0) H (YI [0, 1] 0 K) = K .normal [(0, v), (1, .int .i64 (most : Int))] H := k2 ha
    rw [Bool.true_and]
    have e : decide (l.length ≤ most) = decide ((l.length : Int) ≤ (most : Int)) := decide_eq_decide.2 (by omega)
    rw [e]
    apply Yj _ (d_law_small _ _ H) rfl
    rotate_left 2
    · simp (disch := first | with_reducible rfl | assumption | omega | rfl | (simp only [go_sem]; first | done | omega)) only [go_sem, ↓reduceIte, reduceCtorEq, Nat.reduceEqDiff, Nat.reduceAdd, Nat.reduceSub, Nat.reduceMul, Nat.reduceDiv, Nat.reduceMod, Nat.reduceLeDiff, Nat.reduceLT, Nat.reduceBEq, Int.reduceEq, Int.reduceBEq, Int.reduceBNe, Int.reduceLT, Int.reduceLE, Int.reduceAdd, Int.reduceSub, Int.reduceNeg, Int.reduceToNat, Int.reducePow, Nat.reducePow, Int.reduceMul, Int.reduceDiv, ↓Ux, k2, hlen]
      rfl
    · (repeat (first | exact Fr.refl _ | refine Fr.push ?_ _ | refine Fr.set ?_ _ _ (by intro h; first | omega | (simp only [go_sem] at h; omega))))
end Go.Proofs.YtmiinbhnfojnbaaDoor

namespace Go.Proofs.YtmiinbhnfojnbaaDoor
open Go Eng
end Go.Proofs.YtmiinbhnfojnbaaDoor

namespace Go.Proofs.YtmiinbhnfojnbaaDoor
open Go Eng
theorem u_map_int_bool : Tryd.prog.underlying T.map_int_bool = Tryd.prog.underlying 37 := rfl
theorem u_map_int_int : Tryd.prog.underlying T.map_int_int = Tryd.prog.underlying 38 := rfl
end Go.Proofs.YtmiinbhnfojnbaaDoor

set_option maxRecDepth 10000
namespace Go.Proofs.YtmiinbhnfojnbaaDoor
open Go Eng
noncomputable def WR (mg : GT) (mc : CT) (ms : ST) (P : Program) (C : Yc) (L0 : Value → Value → Value → Value → Value → Value → AHeap → K → Res) (L1 : Value → Value → Value → Value → Value → Value → Value → Value → Value → AHeap → K → Res) (L2 : Value → Value → Value → Value → Value → Value → Value → Value → AHeap → K → Res) (O0 : Value → Value → Value → Value → Value → Value → Value → Value → AHeap → K → Res) (a0 a1 : Value) (H : AHeap) (K0 : K) : Res :=
Yb (Yf P .lss T.int (.tmp 22) (.const (.int .i64 1)) a0 (.int .i64 1)) H fun t23 h1 =>
mg t23 false (fun o1 => o1 a0 h1) h1 fun t25 h2 =>
mg t23 false (fun o2 => Yb (Yf P .gtr T.int (.tmp 25) (.const (.int .i64 100)) t25 (.int .i64 100)) h2 o2) h2 fun t26 h3 =>
YQ t23 (.bool true) t26 fun t27 =>
mg t27 false (fun o3 => o3 a1 h3) h3 fun t29 h4 =>
mg t27 false (fun o4 => Yh C F.law_small [t29, (.int .i64 36)] h4 o4) h4 fun t30 h5 =>
mg t27 false (fun o5 => Yb (xun P .not t30) h5 o5) h5 fun t31 h6 =>
YQ t27 (.bool true) t31 fun t32 =>
mc t32 (fun k6 => Yh C F.law_known [] h6 fun t33 h7 =>
k6 .ret [(4, t33)] h7) (fun k6 =>
k6 .normal [(0, a0), (1, a1)] h6) (Ys (fun tT h8 =>
Yh C F.jobs_New [(get tT 0)] h8 fun t36 h9 =>
Yb (Yn t36 0) h9 fun t37 h10 =>
Yb (Yn t36 1) h10 fun t38 h11 =>
Yb (Yf P .eql T.p_jobs_Queue (.tmp 39) (.const (.pointer none)) t37 (.pointer none)) h11 fun t40 h12 =>
mg t40 false (fun o7 => o7 t38 h12) h12 fun t42 h13 =>
mg t40 false (fun o8 => Yb (Yf P .neq T.api_Errno (.tmp 42) (.const (.int .i64 0)) t42 (.int .i64 0)) h13 o8) h13 fun t43 h14 =>
YQ t40 (.bool true) t43 fun t44 =>
mc t44 (fun k9 => k9 .ret [(4, (.bool false))] h14) (fun k9 =>
k9 .normal [(0, (get tT 0)), (1, (get tT 1)), (5, t37)] h14) (Ys (fun tT_1 h15 =>
Yp (WU P T.map_int_bool none h15) fun t45 h16 =>
Yp (WU P T.map_int_int none h16) fun t46 h17 =>
ms (fun k10 =>
L0 (get tT_1 0) (get tT_1 1) (get tT_1 5) t45 t46 (.int .i64 0) h17 (YI [] 0 k10)) (Ys (fun tT_2 h18 =>
Yh C F.law_known [] h18 fun t247 h19 =>
K0 .ret [(4, t247)] h19) K0)) K0)) K0)
noncomputable def Yw (mg : GT) (mc : CT) (ms : ST) (P : Program) (C : Yc) (L0 : Value → Value → Value → Value → Value → Value → AHeap → K → Res) (L1 : Value → Value → Value → Value → Value → Value → Value → Value → Value → AHeap → K → Res) (L2 : Value → Value → Value → Value → Value → Value → Value → Value → AHeap → K → Res) (O0 : Value → Value → Value → Value → Value → Value → Value → Value → AHeap → K → Res) (v0 v1 v5 v7 v8 v9 : Value) (H : AHeap) (k : K) : Res :=
Yb (lenS v1) H fun t49 h18 =>
Yb (Yf P .lss T.int (.tmp 47) (.tmp 49) v9 t49) h18 fun t50 h19 =>
mc t50 (fun k11 => k11 .normal [(0, v0), (1, v1), (5, v5), (7, v7), (8, v8), (9, v9)] h19) (fun k11 =>
k11 (.exit 0) [(50, t50), (49, t49), (48, v1), (47, v9), (0, v0), (1, v1), (5, v5), (7, v7), (8, v8), (9, v9)] h19) (Ys (fun tT h20 =>
ms (fun k12 =>
Yb (ixS 4 (get tT 1) (get tT 9)) h20 fun t55 h21 =>
Yb (ldN 4 h21 t55) h21 fun t56 h22 =>
Yp (XT T.law_Act (.agg #[(.int .i64 0), (.int .i64 0), (.int .i64 0), (.string (mk []))]) h22) fun t10 h23 =>
Yr (stN 4 h23 t10 t56) fun _ h24 =>
Yh C F.jobs_Queue_Jobs [(get tT 5)] h24 fun t58 h25 =>
Yb (fad 0 t10) h25 fun t59 h26 =>
Yb (ld1 h26 t59) h26 fun t60 h27 =>
ms (fun k13 =>
Yb (Yf P .eql T.int (.tmp 60) (.const (.int .i64 0)) t60 (.int .i64 0)) h27 fun t62 h28 =>
mc t62 (fun k14 => Yb (fad 2 t10) h28 fun t65 h29 =>
Yb (ld1 h29 t65) h29 fun t66 h30 =>
Yb (fad 3 t10) h30 fun t67 h31 =>
Yb (ld1 h31 t67) h31 fun t68 h32 =>
Yh C F.jobs_Queue_Put [(get tT 5), t66, t68] h32 fun t69 h33 =>
Yb (Yn t69 0) h33 fun t70 h34 =>
Yb (Yn t69 1) h34 fun t71 h35 =>
Yb (Yf P .eql T.api_Errno (.tmp 72) (.const (.int .i64 0)) t71 (.int .i64 0)) h35 fun t73 h36 =>
mc t73 (fun k15 => Yb (Xb P T.map_int_bool (get tT 7) t70 false h36) h36 fun t76 h37 =>
mc t76 (fun k16 => k16 .ret [(4, (.bool false))] h37) (fun k16 =>
k16 .normal [(0, (get tT 0)), (1, (get tT 1)), (5, (get tT 5)), (7, (get tT 7)), (8, (get tT 8)), (9, (get tT 9)), (12, t70)] h37) (Ys (fun tT_1 h38 =>
Yr (Y8 P T.map_int_bool (get tT_1 7) (get tT_1 12) (.bool true) h38) fun _ h39 =>
k15 .normal [(0, (get tT_1 0)), (1, (get tT_1 1)), (5, (get tT_1 5)), (7, (get tT_1 7)), (8, (get tT_1 8)), (9, (get tT_1 9))] h39) (Yl [0, 1, 5, 7, 8, 9] k15))) (fun k15 =>
k15 .normal [(0, (get tT 0)), (1, (get tT 1)), (5, (get tT 5)), (7, (get tT 7)), (8, (get tT 8)), (9, (get tT 9))] h36) (Yl [0, 1, 5, 7, 8, 9] k14)) (fun k14 =>
Yb (Yf P .eql T.int (.tmp 60) (.const (.int .i64 1)) t60 (.int .i64 1)) h28 fun t80 h40 =>
mc t80 (fun k17 => Yb (fad 1 t10) h40 fun t83 h41 =>
Yb (ld1 h41 t83) h41 fun t84 h42 =>
Yb (fad 2 t10) h42 fun t85 h43 =>
Yb (ld1 h43 t85) h43 fun t86 h44 =>
Yh C F.jobs_Queue_Take [(get tT 5), t84, t86] h44 fun t87 h45 =>
Yb (Yn t87 0) h45 fun t88 h46 =>
Yb (Yn t87 1) h46 fun t89 h47 =>
Yp (XT T.api_Job (.agg #[(.int .i64 0), (.int .i64 0), (.string (mk [])), (.int .i64 0), (.int .i64 0), (.int .i64 0), (.int .i64 0)]) h47) fun t14 h48 =>
Yr (stN 7 h48 t14 t88) fun _ h49 =>
Yb (Yf P .neq T.api_Errno (.tmp 90) (.const (.int .i64 0)) t89 (.int .i64 0)) h49 fun t91 h50 =>
mc t91 (fun k18 => k18 (.exit 2) ((91, t91) :: (90, t89) :: (15, t89) :: (14, t14) :: (89, t89) :: (88, t88) :: (81, t87) :: (87, t87) :: (86, t86) :: (85, t85) :: (84, t84) :: (83, t83) :: (82, (get tT 5)) :: (79, t80) :: (80, t80) :: (61, t62) :: (62, t62) :: (60, t60) :: (59, t59) :: (11, t58) :: (58, t58) :: (57, (get tT 5)) :: (10, t10) :: (56, t56) :: (55, t55) :: (54, (get tT 9)) :: (53, (get tT 1)) :: tT) h50) (fun k18 =>
k18 .normal [(0, (get tT 0)), (1, (get tT 1)), (5, (get tT 5)), (7, (get tT 7)), (8, (get tT 8)), (9, (get tT 9)), (10, t10), (11, t58), (14, t14)] h50) (Ys (fun tT_2 h51 =>
Yb (fad 0 (get tT_2 14)) h51 fun t93 h52 =>
Yb (ld1 h52 t93) h52 fun t94 h53 =>
Yb (Xb P T.map_int_int (get tT_2 8) t94 false h53) h53 fun t95 h54 =>
Yb (Yf P .add T.int (.tmp 95) (.const (.int .i64 1)) t95 (.int .i64 1)) h54 fun t96 h55 =>
Yr (Y8 P T.map_int_int (get tT_2 8) t94 t96 h55) fun _ h56 =>
Yb (fad 0 (get tT_2 14)) h56 fun t98 h57 =>
Yb (ld1 h57 t98) h57 fun t99 h58 =>
Yb (Xb P T.map_int_bool (get tT_2 7) t99 false h58) h58 fun t100 h59 =>
Yb (xun P .not t100) h59 fun t101 h60 =>
mg t101 false (fun o19 => o19 (get tT_2 8) h60) h60 fun t103 h61 =>
mg t101 false (fun o20 => Yb (fad 0 (get tT_2 14)) h61 o20) h61 fun t104 h62 =>
mg t101 false (fun o21 => Yb (ld1 h62 t104) h62 o21) h62 fun t105 h63 =>
mg t101 false (fun o22 => Yb (Xb P T.map_int_int t103 t105 false h63) h63 o22) h63 fun t106 h64 =>
mg t101 false (fun o23 => o23 (get tT_2 0) h64) h64 fun t107 h65 =>
mg t101 false (fun o24 => Yb (Yf P .gtr T.int (.tmp 106) (.tmp 107) t106 t107) h65 o24) h65 fun t108 h66 =>
YQ t101 (.bool true) t108 fun t109 =>
mg t109 false (fun o25 => Yb (fad 5 (get tT_2 14)) h66 o25) h66 fun t111 h67 =>
mg t109 false (fun o26 => Yb (ld1 h67 t111) h67 o26) h67 fun t112 h68 =>
mg t109 false (fun o27 => Yb (fad 1 (get tT_2 10)) h68 o27) h68 fun t113 h69 =>
mg t109 false (fun o28 => Yb (ld1 h69 t113) h69 o28) h69 fun t114 h70 =>
mg t109 false (fun o29 => Yb (Yf P .neq T.int (.tmp 112) (.tmp 114) t112 t114) h70 o29) h70 fun t115 h71 =>
YQ t109 (.bool true) t115 fun t116 =>
mg t116 false (fun o30 => Yb (fad 6 (get tT_2 14)) h71 o30) h71 fun t118 h72 =>
mg t116 false (fun o31 => Yb (ld1 h72 t118) h72 o31) h72 fun t119 h73 =>
mg t116 false (fun o32 => o32 (get tT_2 5) h73) h73 fun t120 h74 =>
mg t116 false (fun o33 => Yh C F.jobs_Queue_Now [t120] h74 o33) h74 fun t121 h75 =>
mg t116 false (fun o34 => Yb (Yf P .leq T.int (.tmp 119) (.tmp 121) t119 t121) h75 o34) h75 fun t122 h76 =>
YQ t116 (.bool true) t122 fun t123 =>
Xy (okV (goesV t116 false) none h74 h75 h71 h72 && (okV (goesV t116 false) (Yk t118) h74 h75 h72 h73 && true)) <|
mc t123 (fun k35 => k35 .ret [(4, (.bool false))] h76) (fun k35 =>
k35 .normal [(0, (get tT_2 0)), (1, (get tT_2 1)), (5, (get tT_2 5)), (7, (get tT_2 7)), (8, (get tT_2 8)), (9, (get tT_2 9)), (11, (get tT_2 11)), (14, (get tT_2 14))] h76) (Ys (fun tT_3 h77 =>
ms (fun k36 =>
L1 (get tT_3 0) (get tT_3 1) (get tT_3 5) (get tT_3 7) (get tT_3 8) (get tT_3 9) (get tT_3 11) (get tT_3 14) (.int .i64 0) h77 (YI [0, 1, 5, 7, 8, 9] 3 k36)) (Yl [0, 1, 5, 7, 8, 9] k17)) (Yl [0, 1, 5, 7, 8, 9] k17))) (Yl [0, 1, 5, 7, 8, 9] k17))) (fun k17 =>
Yb (Yf P .eql T.int (.tmp 60) (.const (.int .i64 2)) t60 (.int .i64 2)) h40 fun t165 h78 =>
mc t165 (fun k37 => Yb (fad 1 t10) h78 fun t167 h79 =>
Yb (ld1 h79 t167) h79 fun t168 h80 =>
Yb (fad 2 t10) h80 fun t169 h81 =>
Yb (ld1 h81 t169) h81 fun t170 h82 =>
Yh C F.jobs_Queue_Finish [(get tT 5), t168, t170] h82 fun t171 h83 =>
Yb (Yf P .eql T.api_Errno (.tmp 171) (.const (.int .i64 0)) t171 (.int .i64 0)) h83 fun t172 h84 =>
mc t172 (fun k38 => Yb (fad 2 t10) h84 fun t174 h85 =>
Yb (ld1 h85 t174) h85 fun t175 h86 =>
Yr (Y8 P T.map_int_bool (get tT 7) t175 (.bool false) h86) fun _ h87 =>
k38 .normal [(0, (get tT 0)), (1, (get tT 1)), (5, (get tT 5)), (7, (get tT 7)), (8, (get tT 8)), (9, (get tT 9))] h87) (fun k38 =>
k38 .normal [(0, (get tT 0)), (1, (get tT 1)), (5, (get tT 5)), (7, (get tT 7)), (8, (get tT 8)), (9, (get tT 9))] h84) (Yl [0, 1, 5, 7, 8, 9] k37)) (fun k37 =>
Yb (Yf P .eql T.int (.tmp 60) (.const (.int .i64 3)) t60 (.int .i64 3)) h78 fun t177 h88 =>
mc t177 (fun k39 => Yb (fad 1 t10) h88 fun t179 h89 =>
Yb (ld1 h89 t179) h89 fun t180 h90 =>
Yb (fad 2 t10) h90 fun t181 h91 =>
Yb (ld1 h91 t181) h91 fun t182 h92 =>
Yh C F.jobs_Queue_Back [(get tT 5), t180, t182] h92 fun t183 h93 =>
k39 .normal [(0, (get tT 0)), (1, (get tT 1)), (5, (get tT 5)), (7, (get tT 7)), (8, (get tT 8)), (9, (get tT 9))] h93) (fun k39 =>
Yb (Yf P .eql T.int (.tmp 60) (.const (.int .i64 4)) t60 (.int .i64 4)) h88 fun t185 h94 =>
mc t185 (fun k40 => Yb (fad 2 t10) h94 fun t187 h95 =>
Yb (ld1 h95 t187) h95 fun t188 h96 =>
Yh C F.jobs_Queue_Revive [(get tT 5), t188] h96 fun t189 h97 =>
Yb (Yf P .eql T.api_Errno (.tmp 189) (.const (.int .i64 0)) t189 (.int .i64 0)) h97 fun t190 h98 =>
mc t190 (fun k41 => Yb (fad 2 t10) h98 fun t192 h99 =>
Yb (ld1 h99 t192) h99 fun t193 h100 =>
Yr (Y8 P T.map_int_int (get tT 8) t193 (.int .i64 0) h100) fun _ h101 =>
k41 .normal [(0, (get tT 0)), (1, (get tT 1)), (5, (get tT 5)), (7, (get tT 7)), (8, (get tT 8)), (9, (get tT 9))] h101) (fun k41 =>
k41 .normal [(0, (get tT 0)), (1, (get tT 1)), (5, (get tT 5)), (7, (get tT 7)), (8, (get tT 8)), (9, (get tT 9))] h98) (Yl [0, 1, 5, 7, 8, 9] k40)) (fun k40 =>
Yb (Yf P .eql T.int (.tmp 60) (.const (.int .i64 5)) t60 (.int .i64 5)) h94 fun t195 h102 =>
mc t195 (fun k42 => Yb (fad 2 t10) h102 fun t197 h103 =>
Yb (ld1 h103 t197) h103 fun t198 h104 =>
Yh C F.jobs_Queue_Pass [(get tT 5), t198] h104 fun t199 h105 =>
k42 .normal [(0, (get tT 0)), (1, (get tT 1)), (5, (get tT 5)), (7, (get tT 7)), (8, (get tT 8)), (9, (get tT 9))] h105) (fun k42 =>
k42 .normal [(0, (get tT 0)), (1, (get tT 1)), (5, (get tT 5)), (7, (get tT 7)), (8, (get tT 8)), (9, (get tT 9))] h102) (Yl [0, 1, 5, 7, 8, 9] k40)) (Yl [0, 1, 5, 7, 8, 9] k39)) (Yl [0, 1, 5, 7, 8, 9] k37)) (Yl [0, 1, 5, 7, 8, 9] k17)) (Yl [0, 1, 5, 7, 8, 9] k14)) (YI [0, 1, 5, 7, 8, 9] 2 k13)) (Ys (fun tT_4 h106 =>
Yh C F.jobs_Queue_Jobs [(get tT_4 5)] h106 fun t201 h107 =>
O0 (get tT_4 0) (get tT_4 1) (get tT_4 5) (get tT_4 7) (get tT_4 8) (get tT_4 9) t201 (.int .i64 0) h107 (Ys (fun tT_5 h108 =>
Yb (lenS (get tT_5 17)) h108 fun t212 h109 =>
Yb (Yf P .neq T.int (.tmp 212) (.tmp 213) t212 (get tT_5 18)) h109 fun t214 h110 =>
mc t214 (fun k43 => k43 .ret [(4, (.bool false))] h110) (fun k43 =>
k43 .normal [(0, (get tT_5 0)), (1, (get tT_5 1)), (5, (get tT_5 5)), (7, (get tT_5 7)), (8, (get tT_5 8)), (9, (get tT_5 9)), (17, (get tT_5 17))] h110) (Ys (fun tT_6 h111 =>
ms (fun k44 =>
L2 (get tT_6 0) (get tT_6 1) (get tT_6 5) (get tT_6 7) (get tT_6 8) (get tT_6 9) (get tT_6 17) (.int .i64 0) h111 (YI [0, 1, 5, 7, 8, 9] 7 k44)) (YI [0, 1, 5, 7, 8, 9] 1 k12)) (YI [0, 1, 5, 7, 8, 9] 1 k12))) (YI [0, 1, 5, 7, 8, 9] 1 k12))) (YI [0, 1, 5, 7, 8, 9] 1 k12))) (Ys (fun tT_7 h112 =>
Yb (Yf P .add T.int (.tmp 51) (.const (.int .i64 1)) (get tT_7 9) (.int .i64 1)) h112 fun t52 h113 =>
k .normal [(0, (get tT_7 0)), (1, (get tT_7 1)), (5, (get tT_7 5)), (7, (get tT_7 7)), (8, (get tT_7 8)), (9, t52)] h113) (Yl [0, 1, 5, 7, 8, 9] k))) (Yl [0, 1, 5, 7, 8, 9] k))
noncomputable def X1 (mg : GT) (mc : CT) (ms : ST) (P : Program) (C : Yc) (L0 : Value → Value → Value → Value → Value → Value → AHeap → K → Res) (L1 : Value → Value → Value → Value → Value → Value → Value → Value → Value → AHeap → K → Res) (L2 : Value → Value → Value → Value → Value → Value → Value → Value → AHeap → K → Res) (O0 : Value → Value → Value → Value → Value → Value → Value → Value → AHeap → K → Res) (v0 v1 v5 v7 v8 v9 v11 v14 v16 : Value) (H : AHeap) (k : K) : Res :=
Yb (lenS v11) H fun t126 h78 =>
Yb (Yf P .lss T.int (.tmp 124) (.tmp 126) v16 t126) h78 fun t127 h79 =>
mc t127 (fun k37 => k37 .normal [(0, v0), (1, v1), (5, v5), (7, v7), (8, v8), (9, v9), (11, v11), (14, v14), (16, v16)] h79) (fun k37 =>
k37 (.exit 3) [(127, t127), (126, t126), (125, v11), (124, v16), (0, v0), (1, v1), (5, v5), (7, v7), (8, v8), (9, v9), (11, v11), (14, v14), (16, v16)] h79) (Ys (fun tT h80 =>
ms (fun k38 =>
Yb (ixS 7 (get tT 11) (get tT 16)) h80 fun t132 h81 =>
Yb (fad 0 t132) h81 fun t133 h82 =>
Yb (ld1 h82 t133) h82 fun t134 h83 =>
Yb (fad 0 (get tT 14)) h83 fun t135 h84 =>
Yb (ld1 h84 t135) h84 fun t136 h85 =>
Yb (Yf P .eql T.int (.tmp 134) (.tmp 136) t134 t136) h85 fun t137 h86 =>
mg t137 true (fun o39 => o39 (get tT 11) h86) h86 fun t139 h87 =>
mg t137 true (fun o40 => o40 (get tT 16) h87) h87 fun t140 h88 =>
mg t137 true (fun o41 => Yb (ixS 7 t139 t140) h88 o41) h88 fun t141 h89 =>
mg t137 true (fun o42 => Yb (fad 3 t141) h89 o42) h89 fun t142 h90 =>
mg t137 true (fun o43 => Yb (ld1 h90 t142) h90 o43) h90 fun t143 h91 =>
mg t137 true (fun o44 => Yb (Yf P .neq T.api_JobState (.tmp 143) (.const (.int .i64 1)) t143 (.int .i64 1)) h91 o44) h91 fun t144 h92 =>
YQ t137 t144 (.bool false) fun t145 =>
mg t145 false (fun o45 => o45 (get tT 11) h92) h92 fun t147 h93 =>
mg t145 false (fun o46 => o46 (get tT 16) h93) h93 fun t148 h94 =>
mg t145 false (fun o47 => Yb (ixS 7 t147 t148) h94 o47) h94 fun t149 h95 =>
mg t145 false (fun o48 => Yb (fad 3 t149) h95 o48) h95 fun t150 h96 =>
mg t145 false (fun o49 => Yb (ld1 h96 t150) h96 o49) h96 fun t151 h97 =>
mg t145 false (fun o50 => Yb (Yf P .eql T.api_JobState (.tmp 151) (.const (.int .i64 1)) t151 (.int .i64 1)) h97 o50) h97 fun t152 h98 =>
mg t145 false (fun o51 => o51 t152 h98) h98 fun t153 h99 =>
mg t153 true (fun o52 => o52 (get tT 11) h99) h99 fun t154 h100 =>
mg t153 true (fun o53 => o53 (get tT 16) h100) h100 fun t155 h101 =>
mg t153 true (fun o54 => Yb (ixS 7 t154 t155) h101 o54) h101 fun t156 h102 =>
mg t153 true (fun o55 => Yb (fad 1 t156) h102 o55) h102 fun t157 h103 =>
mg t153 true (fun o56 => Yb (ld1 h103 t157) h103 o56) h103 fun t158 h104 =>
mg t153 true (fun o57 => Yb (fad 1 (get tT 14)) h104 o57) h104 fun t159 h105 =>
mg t153 true (fun o58 => Yb (ld1 h105 t159) h105 o58) h105 fun t160 h106 =>
mg t153 true (fun o59 => Yb (Yf P .gtr T.int (.tmp 158) (.tmp 160) t158 t160) h106 o59) h106 fun t161 h107 =>
mg t145 false (fun o60 => YQ t153 t161 (.bool false) fun v => o60 v h107) h107 fun t162 h108 =>
YQ t145 (.bool true) t162 fun t163 =>
Xy true <|
mc t163 (fun k61 => k61 .ret [(4, (.bool false))] h108) (fun k61 =>
k61 .normal [(0, (get tT 0)), (1, (get tT 1)), (5, (get tT 5)), (7, (get tT 7)), (8, (get tT 8)), (9, (get tT 9)), (11, (get tT 11)), (14, (get tT 14)), (16, (get tT 16))] h108) (YI [0, 1, 5, 7, 8, 9, 11, 14, 16] 4 k38)) (Ys (fun tT_1 h109 =>
Yb (Yf P .add T.int (.tmp 128) (.const (.int .i64 1)) (get tT_1 16) (.int .i64 1)) h109 fun t129 h110 =>
k .normal [(0, (get tT_1 0)), (1, (get tT_1 1)), (5, (get tT_1 5)), (7, (get tT_1 7)), (8, (get tT_1 8)), (9, (get tT_1 9)), (11, (get tT_1 11)), (14, (get tT_1 14)), (16, t129)] h110) (Yl [0, 1, 5, 7, 8, 9, 11, 14, 16] k))) (Yl [0, 1, 5, 7, 8, 9, 11, 14, 16] k))
noncomputable def WG (mg : GT) (mc : CT) (ms : ST) (P : Program) (C : Yc) (L0 : Value → Value → Value → Value → Value → Value → AHeap → K → Res) (L1 : Value → Value → Value → Value → Value → Value → Value → Value → Value → AHeap → K → Res) (L2 : Value → Value → Value → Value → Value → Value → Value → Value → AHeap → K → Res) (O0 : Value → Value → Value → Value → Value → Value → Value → Value → AHeap → K → Res) (v0 v1 v5 v7 v8 v9 v17 v21 : Value) (H : AHeap) (k : K) : Res :=
Yb (lenS v17) H fun t217 h112 =>
Yb (Yf P .lss T.int (.tmp 215) (.tmp 217) v21 t217) h112 fun t218 h113 =>
mc t218 (fun k45 => k45 .normal [(0, v0), (1, v1), (5, v5), (7, v7), (8, v8), (9, v9), (17, v17), (21, v21)] h113) (fun k45 =>
k45 (.exit 7) [(218, t218), (217, t217), (216, v17), (215, v21), (0, v0), (1, v1), (5, v5), (7, v7), (8, v8), (9, v9), (17, v17), (21, v21)] h113) (Ys (fun tT h114 =>
ms (fun k46 =>
Yb (ixS 7 (get tT 17) (get tT 21)) h114 fun t224 h115 =>
Yb (fad 0 t224) h115 fun t225 h116 =>
Yb (ld1 h116 t225) h116 fun t226 h117 =>
Yb (Xb P T.map_int_bool (get tT 7) t226 false h117) h117 fun t227 h118 =>
Yb (xun P .not t227) h118 fun t228 h119 =>
mg t228 false (fun o47 => o47 (get tT 17) h119) h119 fun t230 h120 =>
mg t228 false (fun o48 => o48 (get tT 21) h120) h120 fun t231 h121 =>
mg t228 false (fun o49 => Yb (ixS 7 t230 t231) h121 o49) h121 fun t232 h122 =>
mg t228 false (fun o50 => Yb (fad 3 t232) h122 o50) h122 fun t233 h123 =>
mg t228 false (fun o51 => Yb (ld1 h123 t233) h123 o51) h123 fun t234 h124 =>
mg t228 false (fun o52 => Yb (Yf P .eql T.api_JobState (.tmp 234) (.const (.int .i64 2)) t234 (.int .i64 2)) h124 o52) h124 fun t235 h125 =>
mg t228 false (fun o53 => o53 t235 h125) h125 fun t236 h126 =>
mg t236 true (fun o54 => o54 (get tT 17) h126) h126 fun t237 h127 =>
mg t236 true (fun o55 => o55 (get tT 21) h127) h127 fun t238 h128 =>
mg t236 true (fun o56 => Yb (ixS 7 t237 t238) h128 o56) h128 fun t239 h129 =>
mg t236 true (fun o57 => Yb (fad 6 t239) h129 o57) h129 fun t240 h130 =>
mg t236 true (fun o58 => Yb (ld1 h130 t240) h130 o58) h130 fun t241 h131 =>
mg t236 true (fun o59 => o59 (get tT 5) h131) h131 fun t242 h132 =>
mg t236 true (fun o60 => Yh C F.jobs_Queue_Now [t242] h132 o60) h132 fun t243 h133 =>
mg t236 true (fun o61 => Yb (Yf P .leq T.int (.tmp 241) (.tmp 243) t241 t243) h133 o61) h133 fun t244 h134 =>
mg t228 false (fun o62 => YQ t236 t244 (.bool false) fun v => o62 v h134) h134 fun t245 h135 =>
YQ t228 (.bool true) t245 fun t246 =>
Xy (okV (goesV t236 true) none h132 h133 h126 h127 && (okV (goesV t236 true) none h132 h133 h127 h128 && (okV (goesV t236 true) none h132 h133 h128 h129 && (okV (goesV t236 true) none h132 h133 h129 h130 && (okV (goesV t236 true) (Yk t240) h132 h133 h130 h131 && true))))) <|
mc t246 (fun k63 => k63 .ret [(4, (.bool false))] h135) (fun k63 =>
k63 .normal [(0, (get tT 0)), (1, (get tT 1)), (5, (get tT 5)), (7, (get tT 7)), (8, (get tT 8)), (9, (get tT 9)), (17, (get tT 17)), (21, (get tT 21))] h135) (YI [0, 1, 5, 7, 8, 9, 17, 21] 8 k46)) (Ys (fun tT_1 h136 =>
Yb (Yf P .add T.int (.tmp 219) (.const (.int .i64 1)) (get tT_1 21) (.int .i64 1)) h136 fun t220 h137 =>
k .normal [(0, (get tT_1 0)), (1, (get tT_1 1)), (5, (get tT_1 5)), (7, (get tT_1 7)), (8, (get tT_1 8)), (9, (get tT_1 9)), (17, (get tT_1 17)), (21, t220)] h137) (Yl [0, 1, 5, 7, 8, 9, 17, 21] k))) (Yl [0, 1, 5, 7, 8, 9, 17, 21] k))
noncomputable def Vo (mg : GT) (mc : CT) (ms : ST) (P : Program) (C : Yc) (O0 : Value → Value → Value → Value → Value → Value → Value → Value → AHeap → K → Res) (v0 v1 v5 v7 v8 v9 v17 v18 v203 : Value) (kk vv : Value) (H : AHeap) (k : K) : Res :=
Yb (Yn (.tuple #[kk, vv]) 1) H fun t207 h108 =>
mc t207 (fun k43 => Yb (Yf P .add T.int (.tmp 209) (.const (.int .i64 1)) v18 (.int .i64 1)) h108 fun t210 h109 =>
k43 .normal [(0, v0), (1, v1), (5, v5), (7, v7), (8, v8), (9, v9), (17, v17), (18, t210), (203, v203)] h109) (fun k43 =>
k43 .normal [(0, v0), (1, v1), (5, v5), (7, v7), (8, v8), (9, v9), (17, v17), (18, v18), (203, v203)] h108) k
noncomputable def S_law_JobsHolds (m0 : Env → AHeap → VC) : Sems := fun i => if i = 5 then some ([0, 1, 5, 7, 8, 9, 17, 18], m0) else none
noncomputable def Yt (m0 : Env → AHeap → VC) : XCode := xOf Tryd.prog hints F.law_JobsHolds (S_law_JobsHolds m0)
noncomputable def WM (m0 : Env → AHeap → VC) : RC := rcOf (toX (atOf (S_law_JobsHolds m0))) 37 202 203 204 206 (nodeOf 5 (codeOf Tryd.prog hints F.law_JobsHolds))
theorem rc_law_JobsHolds_0_ok (m0 : Env → AHeap → VC) : (WM m0).Ok Tryd.prog (Xn Tryd.prog F.law_JobsHolds) := ⟨by kernel_rfl, by kernel_rfl, by kernel_rfl, ⟨by kernel_rfl, by kernel_rfl, by kernel_rfl⟩, ⟨by kernel_rfl, by kernel_rfl, by kernel_rfl⟩, ⟨by kernel_rfl, by kernel_rfl, by kernel_rfl⟩, ⟨by kernel_rfl, by kernel_rfl, by kernel_rfl⟩, ⟨3, 4, by kernel_rfl⟩, ⟨of_decide_eq_true (by kernel_rfl), of_decide_eq_true (by kernel_rfl), of_decide_eq_true (by kernel_rfl), of_decide_eq_true (by kernel_rfl)⟩, ⟨of_decide_eq_true (by kernel_rfl), of_decide_eq_true (by kernel_rfl)⟩⟩
theorem s_law_JobsHolds_eq (M : CombL) (C : Yc) (LP : Yv) (m0 : Env → AHeap → VC) (a0 a1 : Value) (H : AHeap) : Wf M Tryd.prog (Xn Tryd.prog F.law_JobsHolds) C LP (Yt m0) (Ur 0 [a0, a1]) H (Yi Tryd.prog [.tmp 4]) = WR M.b.g M.c M.s Tryd.prog C (fun v0 v1 v5 v7 v8 v9 H k => Vy M Tryd.prog (Xn Tryd.prog F.law_JobsHolds) C LP (Yt m0) 0 [(0, v0), (1, v1), (5, v5), (7, v7), (8, v8), (9, v9)] H k) (fun v0 v1 v5 v7 v8 v9 v11 v14 v16 H k => Vy M Tryd.prog (Xn Tryd.prog F.law_JobsHolds) C LP (Yt m0) 1 [(0, v0), (1, v1), (5, v5), (7, v7), (8, v8), (9, v9), (11, v11), (14, v14), (16, v16)] H k) (fun v0 v1 v5 v7 v8 v9 v17 v21 H k => Vy M Tryd.prog (Xn Tryd.prog F.law_JobsHolds) C LP (Yt m0) 2 [(0, v0), (1, v1), (5, v5), (7, v7), (8, v8), (9, v9), (17, v17), (21, v21)] H k) (fun v0 v1 v5 v7 v8 v9 v17 v18 H k => (m0 [(0, v0), (1, v1), (5, v5), (7, v7), (8, v8), (9, v9), (17, v17), (18, v18)] H).bind fun r => k r.1 r.2.1 r.2.2) a0 a1 H (Yi Tryd.prog [.tmp 4]) := by kernel_rfl
theorem s_law_JobsHolds_b0_eq (M : CombL) (C : Yc) (LP : Yv) (m0 : Env → AHeap → VC) (v0 v1 v5 v7 v8 v9 : Value) (H : AHeap) (k : K) : Wf M Tryd.prog (Xn Tryd.prog F.law_JobsHolds) C LP (Gj (Yt m0) 0).2 [(0, v0), (1, v1), (5, v5), (7, v7), (8, v8), (9, v9)] H (Yl [0, 1, 5, 7, 8, 9] k) = Yw M.b.g M.c M.s Tryd.prog C (fun v0 v1 v5 v7 v8 v9 H k => Vy M Tryd.prog (Xn Tryd.prog F.law_JobsHolds) C LP (Yt m0) 0 [(0, v0), (1, v1), (5, v5), (7, v7), (8, v8), (9, v9)] H k) (fun v0 v1 v5 v7 v8 v9 v11 v14 v16 H k => Vy M Tryd.prog (Xn Tryd.prog F.law_JobsHolds) C LP (Yt m0) 1 [(0, v0), (1, v1), (5, v5), (7, v7), (8, v8), (9, v9), (11, v11), (14, v14), (16, v16)] H k) (fun v0 v1 v5 v7 v8 v9 v17 v21 H k => Vy M Tryd.prog (Xn Tryd.prog F.law_JobsHolds) C LP (Yt m0) 2 [(0, v0), (1, v1), (5, v5), (7, v7), (8, v8), (9, v9), (17, v17), (21, v21)] H k) (fun v0 v1 v5 v7 v8 v9 v17 v18 H k => (m0 [(0, v0), (1, v1), (5, v5), (7, v7), (8, v8), (9, v9), (17, v17), (18, v18)] H).bind fun r => k r.1 r.2.1 r.2.2) v0 v1 v5 v7 v8 v9 H k := by kernel_rfl
theorem s_law_JobsHolds_b1_eq (M : CombL) (C : Yc) (LP : Yv) (m0 : Env → AHeap → VC) (v0 v1 v5 v7 v8 v9 v11 v14 v16 : Value) (H : AHeap) (k : K) : Wf M Tryd.prog (Xn Tryd.prog F.law_JobsHolds) C LP (Gj (Yt m0) 1).2 [(0, v0), (1, v1), (5, v5), (7, v7), (8, v8), (9, v9), (11, v11), (14, v14), (16, v16)] H (Yl [0, 1, 5, 7, 8, 9, 11, 14, 16] k) = X1 M.b.g M.c M.s Tryd.prog C (fun v0 v1 v5 v7 v8 v9 H k => Vy M Tryd.prog (Xn Tryd.prog F.law_JobsHolds) C LP (Yt m0) 0 [(0, v0), (1, v1), (5, v5), (7, v7), (8, v8), (9, v9)] H k) (fun v0 v1 v5 v7 v8 v9 v11 v14 v16 H k => Vy M Tryd.prog (Xn Tryd.prog F.law_JobsHolds) C LP (Yt m0) 1 [(0, v0), (1, v1), (5, v5), (7, v7), (8, v8), (9, v9), (11, v11), (14, v14), (16, v16)] H k) (fun v0 v1 v5 v7 v8 v9 v17 v21 H k => Vy M Tryd.prog (Xn Tryd.prog F.law_JobsHolds) C LP (Yt m0) 2 [(0, v0), (1, v1), (5, v5), (7, v7), (8, v8), (9, v9), (17, v17), (21, v21)] H k) (fun v0 v1 v5 v7 v8 v9 v17 v18 H k => (m0 [(0, v0), (1, v1), (5, v5), (7, v7), (8, v8), (9, v9), (17, v17), (18, v18)] H).bind fun r => k r.1 r.2.1 r.2.2) v0 v1 v5 v7 v8 v9 v11 v14 v16 H k := by kernel_rfl
theorem s_law_JobsHolds_b2_eq (M : CombL) (C : Yc) (LP : Yv) (m0 : Env → AHeap → VC) (v0 v1 v5 v7 v8 v9 v17 v21 : Value) (H : AHeap) (k : K) : Wf M Tryd.prog (Xn Tryd.prog F.law_JobsHolds) C LP (Gj (Yt m0) 2).2 [(0, v0), (1, v1), (5, v5), (7, v7), (8, v8), (9, v9), (17, v17), (21, v21)] H (Yl [0, 1, 5, 7, 8, 9, 17, 21] k) = WG M.b.g M.c M.s Tryd.prog C (fun v0 v1 v5 v7 v8 v9 H k => Vy M Tryd.prog (Xn Tryd.prog F.law_JobsHolds) C LP (Yt m0) 0 [(0, v0), (1, v1), (5, v5), (7, v7), (8, v8), (9, v9)] H k) (fun v0 v1 v5 v7 v8 v9 v11 v14 v16 H k => Vy M Tryd.prog (Xn Tryd.prog F.law_JobsHolds) C LP (Yt m0) 1 [(0, v0), (1, v1), (5, v5), (7, v7), (8, v8), (9, v9), (11, v11), (14, v14), (16, v16)] H k) (fun v0 v1 v5 v7 v8 v9 v17 v21 H k => Vy M Tryd.prog (Xn Tryd.prog F.law_JobsHolds) C LP (Yt m0) 2 [(0, v0), (1, v1), (5, v5), (7, v7), (8, v8), (9, v9), (17, v17), (21, v21)] H k) (fun v0 v1 v5 v7 v8 v9 v17 v18 H k => (m0 [(0, v0), (1, v1), (5, v5), (7, v7), (8, v8), (9, v9), (17, v17), (18, v18)] H).bind fun r => k r.1 r.2.1 r.2.2) v0 v1 v5 v7 v8 v9 v17 v21 H k := by kernel_rfl
theorem s_law_JobsHolds_o0_eq (M : CombL) (C : Yc) (LP : Yv) (m0 : Env → AHeap → VC) (v0 v1 v5 v7 v8 v9 v17 v18 v203 : Value) (kk vv : Value) (H : AHeap) (k : K) : dOpsK M.b Tryd.prog (Xn Tryd.prog F.law_JobsHolds) C (WM m0).ops2 ((WM m0).ops2.toList.drop 1) ((206, .tuple #[kk, vv]) :: (205, .bool true) :: (204, .chan none) :: [(0, v0), (1, v1), (5, v5), (7, v7), (8, v8), (9, v9), (17, v17), (18, v18), (203, v203)]) H (fun T H => Wf M Tryd.prog (Xn Tryd.prog F.law_JobsHolds) C LP (WM m0).rest T H k) = Vo M.b.g M.c M.s Tryd.prog C (fun v0 v1 v5 v7 v8 v9 v17 v18 H k => (m0 [(0, v0), (1, v1), (5, v5), (7, v7), (8, v8), (9, v9), (17, v17), (18, v18)] H).bind fun r => k r.1 r.2.1 r.2.2) v0 v1 v5 v7 v8 v9 v17 v18 v203 kk vv H k := by kernel_rfl
noncomputable def noneM : Env → AHeap → VC := fun _ _ => none
noncomputable def Xg : RC := WM noneM
noncomputable def YF : Env → AHeap → VC := (Xg).sem Tryd.prog (Xn Tryd.prog F.law_JobsHolds) CC
theorem CC_ok : Wo Tryd.prog CC := fun f args H v H' h hl had B ι w args' r ha => by
  obtain ⟨k, hk⟩ := D_run h
  exact call_sound prims1_ok mixed k f args H v H' hk hl had B ι w args' r ha
theorem CC_ad : XC CC := fun f args H v H' h hl had => by
  obtain ⟨k, hk⟩ := D_run h
  exact call_ad (fun f p hp => (prims1_ok f p hp).1) k f args H v H' hk hl had
theorem ZE : Ql Tryd.prog (Xn Tryd.prog F.law_JobsHolds) (Xg).rest := Qh _ fun p hp => by
  rw [show opqs (Xg).rest = [] by kernel_rfl] at hp
  simp only [List.mem_cons, List.not_mem_nil, or_false] at hp
theorem x_law_JobsHolds_good : Ql Tryd.prog (Xn Tryd.prog F.law_JobsHolds) (Yt YF) := Qh _ fun p hp => by
  rw [show opqs (Yt YF) = [((Xg).code, fun T H => YF (clr [0, 1, 5, 7, 8, 9, 17, 18] T) H)] by kernel_rfl] at hp
  simp only [List.mem_cons, List.not_mem_nil, or_false] at hp
  rcases hp with rfl
  · exact opq_ok CC_ok CC_ad mixed (rc_law_JobsHolds_0_ok noneM) ZE _
noncomputable def Xt (v0 v1 v5 v7 v8 v9 v17 v18 : Value) (H : AHeap) (k : K) : Res := (YF [(0, v0), (1, v1), (5, v5), (7, v7), (8, v8), (9, v9), (17, v17), (18, v18)] H).bind fun r => k r.1 r.2.1 r.2.2
noncomputable def Y4 (v0 v1 v5 v7 v8 v9 : Value) (H : AHeap) (k : K) : Res := Vy Yd Tryd.prog (Xn Tryd.prog F.law_JobsHolds) CC Yo (Yt YF) 0 [(0, v0), (1, v1), (5, v5), (7, v7), (8, v8), (9, v9)] H k
noncomputable def Xq (v0 v1 v5 v7 v8 v9 v11 v14 v16 : Value) (H : AHeap) (k : K) : Res := Vy Yd Tryd.prog (Xn Tryd.prog F.law_JobsHolds) CC Yo (Yt YF) 1 [(0, v0), (1, v1), (5, v5), (7, v7), (8, v8), (9, v9), (11, v11), (14, v14), (16, v16)] H k
noncomputable def Xs (v0 v1 v5 v7 v8 v9 v17 v21 : Value) (H : AHeap) (k : K) : Res := Vy Yd Tryd.prog (Xn Tryd.prog F.law_JobsHolds) CC Yo (Yt YF) 2 [(0, v0), (1, v1), (5, v5), (7, v7), (8, v8), (9, v9), (17, v17), (21, v21)] H k
theorem YJ (v0 v1 v5 v7 v8 v9 : Value) (H : AHeap) (k : K) : Y4 v0 v1 v5 v7 v8 v9 H k = Yw Ye Ym Yg Tryd.prog CC Y4 Xq Xs Xt v0 v1 v5 v7 v8 v9 H (Ys (fun T H => Y4 (get T 0) (get T 1) (get T 5) (get T 7) (get T 8) (get T 9) H k) k) := ((xLoopL_next (by kernel_rfl) rfl H k).trans (s_law_JobsHolds_b0_eq Yd CC Yo YF v0 v1 v5 v7 v8 v9 H _)).trans (by kernel_rfl)
theorem Zd (v0 v1 v5 v7 v8 v9 v11 v14 v16 : Value) (H : AHeap) (k : K) : Xq v0 v1 v5 v7 v8 v9 v11 v14 v16 H k = X1 Ye Ym Yg Tryd.prog CC Y4 Xq Xs Xt v0 v1 v5 v7 v8 v9 v11 v14 v16 H (Ys (fun T H => Xq (get T 0) (get T 1) (get T 5) (get T 7) (get T 8) (get T 9) (get T 11) (get T 14) (get T 16) H k) k) := ((xLoopL_next (by kernel_rfl) rfl H k).trans (s_law_JobsHolds_b1_eq Yd CC Yo YF v0 v1 v5 v7 v8 v9 v11 v14 v16 H _)).trans (by kernel_rfl)
theorem Zi (v0 v1 v5 v7 v8 v9 v17 v21 : Value) (H : AHeap) (k : K) : Xs v0 v1 v5 v7 v8 v9 v17 v21 H k = WG Ye Ym Yg Tryd.prog CC Y4 Xq Xs Xt v0 v1 v5 v7 v8 v9 v17 v21 H (Ys (fun T H => Xs (get T 0) (get T 1) (get T 5) (get T 7) (get T 8) (get T 9) (get T 17) (get T 21) H k) k) := ((xLoopL_next (by kernel_rfl) rfl H k).trans (s_law_JobsHolds_b2_eq Yd CC Yo YF v0 v1 v5 v7 v8 v9 v17 v21 H _)).trans (by kernel_rfl)
theorem Zz (v0 v1 v5 v7 v8 v9 v17 v18 v203 : Value) (kk vv : Value) (H H' : AHeap) (x : DExit) (T3 : Env) (h : Vo Ye Ym Yg Tryd.prog CC Xt v0 v1 v5 v7 v8 v9 v17 v18 v203 kk vv H (isK x T3 H') = some (.bool true, H')) : ∃ T2 H2, ZS Tryd.prog (Xn Tryd.prog F.law_JobsHolds) CC (Xg).ops2 ((Xg).ops2.toList.drop 1) ((206, .tuple #[kk, vv]) :: (205, .bool true) :: (204, .chan none) :: [(0, v0), (1, v1), (5, v5), (7, v7), (8, v8), (9, v9), (17, v17), (18, v18), (203, v203)]) H = some (T2, H2) ∧ XJ Tryd.prog (Xn Tryd.prog F.law_JobsHolds) CC (Xg).rest T2 H2 = some (x, T3, H') := round_of (((s_law_JobsHolds_o0_eq Yd CC Yo noneM v0 v1 v5 v7 v8 v9 v17 v18 v203 kk vv H _).trans (by kernel_rfl)).trans h)
theorem U6 : Tryd.prog.funcs[F.law_JobsHolds]? = some Tryd.f4 := by kernel_rfl
noncomputable def prims2 : ZO := fun f => if f = F.law_JobsHolds then some (fun args H => xPrim Tryd.prog CC Tryd.f4 (Yt YF) args H) else prims1 f
theorem prims2_ok : PrimsOK Tryd.prog prims2 := by
  intro f p h
  unfold prims2 at h
  split at h
  · rename_i hf
    cases h
    subst hf
    exact x_prim CC_ok CC_ad mixed U6 (show Tryd.f4.body = some (W8 (Yt YF)) from (show Tryd.f4.body = some (Tryd.f4.body.getD .skip) by kernel_rfl).trans (congrArg some (xOf_erase U6 (by kernel_rfl)).symm)) x_law_JobsHolds_good
  · exact prims1_ok f p h
theorem Uf (a0 a1 : Value) (H : AHeap) {r : Value × AHeap} (h : WR Ye Ym Yg Tryd.prog CC Y4 Xq Xs Xt a0 a1 H (Yi Tryd.prog [.tmp 4]) = some r) : UW Tryd.prog prims2 hints 1 F.law_JobsHolds [a0, a1] H = some (tidy H r) := by
  have hp : prims2 F.law_JobsHolds = some (fun args H => xPrim Tryd.prog CC Tryd.f4 (Yt YF) args H) := if_pos rfl
  simp only [UW, hp]
  exact xPrim_of U6 (((s_law_JobsHolds_eq Yd CC Yo YF a0 a1 H).trans (by kernel_rfl)).trans h)
end Go.Proofs.YtmiinbhnfojnbaaDoor

set_option maxRecDepth 10000
namespace Go.Proofs.YtmiinbhnfojnbaaDoor
open Go Eng
attribute [local congr] YX YZ YR
def mapB (es : List (Int × Bool)) : Blk := .map (es.map fun p => (.int .i64 p.1, .bool p.2))
def mapI (es : List (Int × Int)) : Blk := .map (es.map fun p => (.int .i64 p.1, .int .i64 p.2))
theorem Gl : MapT Tryd.prog (kInt .i64) T.map_int_bool (.bool false) := ⟨⟨_, _, u_map_int_bool.trans Tryd.underlying37, by kernel_rfl, by kernel_rfl⟩⟩
theorem Gc : MapT Tryd.prog (kInt .i64) T.map_int_int (.int .i64 0) := ⟨⟨_, _, u_map_int_int.trans Tryd.underlying38, by kernel_rfl, by kernel_rfl⟩⟩
theorem entF {α : Type} (f : α → Value) : ∀ es : List (Int × α), Ent (fun v a => v = f a) (kInt .i64).kv (es.map fun p => (.int .i64 p.1, f p.2)) es
  | [] => trivial
  | p :: es => ⟨rfl, rfl, entF f es⟩
theorem entF_eq {α : Type} (f : α → Value) : ∀ {ents : List (Value × Value)} {es : List (Int × α)}, Ent (fun v a => v = f a) (kInt .i64).kv ents es → ents = es.map fun p => (.int .i64 p.1, f p.2)
  | [], [], _ => rfl
  | (a, b) :: ents, p :: es, e => by
    obtain ⟨h1, h2, h3⟩ := e
    have h1 : a = .int .i64 p.1 := h1
    have h2 : b = f p.2 := h2
    rw [h1, h2, entF_eq f h3]; rfl
  | [], _ :: _, e => e.elim
  | _ :: _, [], e => e.elim
section
variable {H : AHeap} {b : Nat}
theorem there_look {es : List (Int × Bool)} (h : H.f b = mapB es) (k : Int) : Xb Tryd.prog T.map_int_bool (.map (some b)) (.int .i64 k) false H = some (.bool ((lkp es k).getD false)) := by
  cases hk : lkp es k with
  | none => exact look_none Gl h (entF (fun a => .bool a) es) (k := k) hk false
  | some a =>
    obtain ⟨v, h1, h2⟩ := ZM Gl h (entF (fun a => .bool a) es) (k := k) hk false
    rw [h2] at h1; exact h1
theorem count_look {es : List (Int × Int)} (h : H.f b = mapI es) (k : Int) : Xb Tryd.prog T.map_int_int (.map (some b)) (.int .i64 k) false H = some (.int .i64 ((lkp es k).getD 0)) := by
  cases hk : lkp es k with
  | none => exact look_none Gc h (entF (fun a => .int .i64 a) es) (k := k) hk false
  | some a =>
    obtain ⟨v, h1, h2⟩ := ZM Gc h (entF (fun a => .int .i64 a) es) (k := k) hk false
    rw [h2] at h1; exact h1
theorem there_put {es : List (Int × Bool)} (h : H.f b = mapB es) (k : Int) (v : Bool) : Y8 Tryd.prog T.map_int_bool (.map (some b)) (.int .i64 k) (.bool v) H = some (H.set b (mapB (Eng.putE es k v))) := by
  have e := (entF (fun a => Value.bool a) es).put (Kk := kInt .i64) (k := k) (v := .bool v) (a := v) rfl
  have := upd_map Gl h (entF (fun a => .bool a) es) k (.bool v)
  rw [entF_eq _ e] at this
  exact this
theorem count_put {es : List (Int × Int)} (h : H.f b = mapI es) (k : Int) (v : Int) : Y8 Tryd.prog T.map_int_int (.map (some b)) (.int .i64 k) (.int .i64 v) H = some (H.set b (mapI (Eng.putE es k v))) := by
  have e := (entF (fun a => Value.int .i64 a) es).put (Kk := kInt .i64) (k := k) (v := .int .i64 v) (a := v) rfl
  have := upd_map Gc h (entF (fun a => .int .i64 a) es) k (.int .i64 v)
  rw [entF_eq _ e] at this
  exact this
theorem there_make : WU Tryd.prog T.map_int_bool none H = some (.map (some H.n), H.push (mapB [])) := make_map Gl
theorem count_make : WU Tryd.prog T.map_int_int none H = some (.map (some H.n), H.push (mapI [])) := make_map Gc
end
def Zr (es : List (Int × Bool)) : Nat := (es.filter fun p => p.2).length
theorem keys_rep {α : Type} (es : List (Int × α)) (k : Int) (a : α) : (Zy es k a).map (·.1) = es.map (·.1) := by
  unfold Zy
  rw [List.map_map]
  apply List.map_congr_left
  intro p _
  simp only [Function.comp]
  split <;> rfl
theorem nd_put {α : Type} {es : List (Int × α)} (h : (es.map (·.1)).Nodup) (k : Int) (a : α) : ((Eng.putE es k a).map (·.1)).Nodup := by
  unfold Eng.putE
  split
  · rw [keys_rep]; exact h
  · rename_i hk
    rw [List.map_append, List.nodup_append]
    refine ⟨h, by simp, fun x hx y hy => ?_⟩
    simp at hy
    rintro rfl
    subst hy
    exact hk (lkp_key.2 hx)
theorem cnt_rep : ∀ {es : List (Int × Bool)}, (es.map (·.1)).Nodup → ∀ (k : Int) (o v : Bool), lkp es k = some o → Zr (Zy es k v) + o.toNat = Zr es + v.toNat
  | [], _, k, o, v, h => by cases h
  | p :: es, hn, k, o, v, h => by
    have hn' := List.nodup_cons.1 hn
    by_cases hk : k = p.1
    · have ho : o = p.2 := by simp [lkp, hk] at h; exact h.symm
      have hr : Zy es k v = es := by
        unfold Zy
        conv => rhs; rw [← List.map_id es]
        apply List.map_congr_left
        intro q hq
        have : k ≠ q.1 := fun e => hn'.1 (show p.1 ∈ es.map (·.1) by rw [← hk, e]; exact List.mem_map_of_mem hq)
        simp [this]
      have he : Zy (p :: es) k v = (p.1, v) :: es := by
        have : Zy (p :: es) k v = (if k = p.1 then (p.1, v) else p) :: Zy es k v := rfl
        rw [this, if_pos hk, hr]
      rw [he, ho]
      unfold Zr
      obtain ⟨p1, p2⟩ := p
      cases p2 <;> cases v <;> simp
    · have h' : lkp es k = some o := by simpa [lkp, hk] using h
      have ih := cnt_rep hn'.2 k o v h'
      have he : Zy (p :: es) k v = p :: Zy es k v := by
        have : Zy (p :: es) k v = (if k = p.1 then (p.1, v) else p) :: Zy es k v := rfl
        rw [this, if_neg hk]
      rw [he]
      unfold Zr at ih ⊢
      obtain ⟨p1, p2⟩ := p
      cases p2 <;> simp <;> omega
theorem cnt_put {es : List (Int × Bool)} (hn : (es.map (·.1)).Nodup) (k : Int) (v : Bool) : Zr (Eng.putE es k v) + ((lkp es k).getD false).toNat = Zr es + v.toNat := by
  cases h : lkp es k with
  | some o =>
    have hh : has es k = true := by unfold has; rw [h]; rfl
    unfold Eng.putE
    rw [if_pos hh]
    exact cnt_rep hn k o v h
  | none =>
    have hh : ¬ has es k = true := by unfold has; rw [h]; simp
    unfold Eng.putE
    rw [if_neg hh]
    unfold Zr
    rw [List.filter_append, List.length_append]
    cases v <;> simp
theorem len_sub : ∀ {l m : List (Int × Bool)}, l.Nodup → (∀ p ∈ l, p ∈ m) → l.length ≤ m.length
  | [], _, _, _ => by simp
  | p :: l, m, hn, h => by
    have hn' := List.nodup_cons.1 hn
    have hp : p ∈ m := h p (by simp)
    have ih := len_sub (m := m.erase p) hn'.2 fun q hq => (List.mem_erase_of_ne fun e => hn'.1 (by rw [← e]; exact hq)).2 (h q (List.mem_cons_of_mem _ hq))
    rw [List.length_erase_of_mem hp] at ih
    have := List.length_pos_of_mem hp
    simp only [List.length_cons]
    omega
theorem nd_of_keys {l : List (Int × Bool)} (h : (l.map (·.1)).Nodup) : l.Nodup := by
  induction l with
  | nil => simp
  | cons p l ih =>
    have h' := List.nodup_cons.1 h
    exact List.nodup_cons.2 ⟨fun hp => h'.1 (List.mem_map_of_mem hp), ih h'.2⟩
theorem cnt_same {l m : List (Int × Bool)} (hl : (l.map (·.1)).Nodup) (hm : (m.map (·.1)).Nodup) (h1 : ∀ p ∈ l, p ∈ m) (h2 : ∀ p ∈ m, p ∈ l) : Zr l = Zr m := by
  unfold Zr
  refine Nat.le_antisymm (len_sub ((nd_of_keys hl).filter _) fun p hp => ?_) (len_sub ((nd_of_keys hm).filter _) fun p hp => ?_)
  · rw [List.mem_filter] at hp ⊢; exact ⟨h1 p hp.1, hp.2⟩
  · rw [List.mem_filter] at hp ⊢; exact ⟨h2 p hp.1, hp.2⟩
theorem o_range (v0 v1 v5 v8 v9 v17 : Value) (H : AHeap) (bt : Nat) (es : List (Int × Bool)) (hf : H.f bt = mapB es) (hn : (es.map (·.1)).Nodup) (hl : es.length < 1000000) (k : K) :
    Xt v0 v1 v5 (.map (some bt)) v8 v9 v17 (.int .i64 0) H k = k .normal [(0, v0), (1, v1), (5, v5), (7, .map (some bt)), (8, v8), (9, v9), (17, v17), (18, .int .i64 (Zr es : Int))] H := by
  have hr : Ranged Tryd.prog (Xn Tryd.prog F.law_JobsHolds) CC Xg [(0, v0), (1, v1), (5, v5), (7, .map (some bt)), (8, v8), (9, v9), (17, v17), (18, .int .i64 0)] H [(0, v0), (1, v1), (5, v5), (7, .map (some bt)), (8, v8), (9, v9), (17, v17), (18, .int .i64 (Zr es : Int))] := by
    refine ⟨.map (some bt), bt, es.map fun p => (.int .i64 p.1, .bool p.2), fun seen T1 => ∃ dn : List (Int × Bool), seen = dn.map (fun p => Value.int .i64 p.1) ∧ (dn.map (·.1)).Nodup ∧ (∀ p ∈ dn, p ∈ es) ∧
      T1 = [(0, v0), (1, v1), (5, v5), (7, .map (some bt)), (8, v8), (9, v9), (17, v17), (18, .int .i64 (Zr dn : Int)), (203, .pointer (some ⟨H.n, 0, none⟩))], ?_⟩
    refine ⟨by kernel_rfl, by kernel_rfl, hf, ?_, ?_, ⟨[], rfl, by simp, by simp, by kernel_rfl⟩, ?_, ?_, ?_, ?_⟩
    · intro p hp
      obtain ⟨q, _, rfl⟩ := List.mem_map.1 hp
      rfl
    · rw [List.map_map]
      have : ((fun x : Value × Value => x.1) ∘ fun p : Int × Bool => (Value.int .i64 p.1, Value.bool p.2)) = (fun n : Int => Value.int .i64 n) ∘ (fun p : Int × Bool => p.1) := rfl
      rw [this, ← List.map_map]
      exact List.Pairwise.map _ (fun a b h e => h (by injection e)) hn
    · rintro seen T1 ⟨dn, -, -, -, rfl⟩
      kernel_rfl
    · rintro seen T1 p ⟨dn, rfl, hdn, hde, rfl⟩ hp hs
      obtain ⟨q, hq, rfl⟩ := List.mem_map.1 hp
      have hqn : q.1 ∉ dn.map (·.1) := fun h => by
        obtain ⟨r, hr, he⟩ := List.mem_map.1 h
        exact hs (List.mem_map.2 ⟨r, hr, by rw [he]⟩)
      have hle : Zr dn ≤ es.length := Nat.le_trans (List.length_filter_le ..) (len_sub (nd_of_keys hdn) hde)
      have hc : (Zr (q :: dn) : Int) = Zr dn + q.2.toNat := by
        obtain ⟨q1, q2⟩ := q
        unfold Zr
        cases q2 <;> simp
      obtain ⟨T2, H2, h1, h2⟩ := Zz v0 v1 v5 (.map (some bt)) v8 v9 v17 (.int .i64 (Zr dn : Int)) (.pointer (some ⟨H.n, 0, none⟩)) (.int .i64 q.1) (.bool q.2) (RC.heap H bt) (RC.heap H bt) .normal
        [(0, v0), (1, v1), (5, v5), (7, .map (some bt)), (8, v8), (9, v9), (17, v17), (18, .int .i64 (Zr (q :: dn) : Int)), (203, .pointer (some ⟨H.n, 0, none⟩))] (by
          rw [hc]
          cases hq2 : q.2 with
          | false =>
            simp (disch := first | with_reducible rfl | assumption | omega | rfl | (simp only [go_sem]; first | done | omega)) only [go_sem, ↓reduceIte, reduceCtorEq, Nat.reduceEqDiff, Nat.reduceAdd, Nat.reduceSub, Nat.reduceMul, Nat.reduceDiv, Nat.reduceMod, Nat.reduceLeDiff, Nat.reduceLT, Nat.reduceBEq, Int.reduceEq, Int.reduceBEq, Int.reduceBNe, Int.reduceLT, Int.reduceLE, Int.reduceAdd, Int.reduceSub, Int.reduceNeg, Int.reduceToNat, Int.reducePow, Nat.reducePow, Int.reduceMul, Int.reduceDiv, ↓Vo, isK_hit, Bool.toNat_false, Int.add_zero, Int.ofNat_zero]
          | true =>
            have hw : (Zr dn : Int) < 1000000 := by omega
            simp (disch := first | with_reducible rfl | assumption | omega | rfl | (simp only [go_sem]; first | done | omega)) only [go_sem, ↓reduceIte, reduceCtorEq, Nat.reduceEqDiff, Nat.reduceAdd, Nat.reduceSub, Nat.reduceMul, Nat.reduceDiv, Nat.reduceMod, Nat.reduceLeDiff, Nat.reduceLT, Nat.reduceBEq, Int.reduceEq, Int.reduceBEq, Int.reduceBNe, Int.reduceLT, Int.reduceLE, Int.reduceAdd, Int.reduceSub, Int.reduceNeg, Int.reduceToNat, Int.reducePow, Nat.reducePow, Int.reduceMul, Int.reduceDiv, ↓Vo, isK_hit, Bool.toNat_true, Int.ofNat_one])
      exact ⟨T2, H2, .normal, _, h1, h2, .inl rfl, q :: dn, rfl, List.nodup_cons.2 ⟨hqn, hdn⟩, fun r hr => by
        rcases List.mem_cons.1 hr with rfl | hr
        · exact hq
        · exact hde r hr, by kernel_rfl⟩
    · rintro seen T1 ⟨dn, rfl, hdn, hde, rfl⟩ hall
      rw [← cnt_same hdn hn hde fun p hp => by
        have h1 := hall (.int .i64 p.1, .bool p.2) (List.mem_map.2 ⟨p, hp, rfl⟩)
        obtain ⟨r, hr, he⟩ := List.mem_map.1 h1
        have he : r.1 = p.1 := by injection he
        have : r = p := nodup_inj (·.1) _ hn r (hde r hr) p hp he
        rw [← this]; exact hr]
      kernel_rfl
    · intro p hp
      simp only [List.mem_cons, List.not_mem_nil, or_false] at hp
      rcases hp with rfl | rfl | rfl | rfl | rfl | rfl | rfl | rfl
      all_goals first | exact .inl rfl | exact .inr rfl
  unfold Xt YF
  rw [RC.sem_eq hr]
  rfl
end Go.Proofs.YtmiinbhnfojnbaaDoor

set_option maxRecDepth 10000
namespace Go.Proofs.YtmiinbhnfojnbaaDoor
open Go Eng
structure LI (A : List Jb) (tries last now : Int) (es : List (Int × Bool)) (cs : List (Int × Int)) : Prop where
  nd : (es.map (·.1)).Nodup
  el : (es.length : Int) ≤ last
  th : ∀ id, lkp es id = some true ↔ id ∈ A.map (·.id)
  cn : Zr es = A.length
  ct : ∀ a ∈ A, (lkp cs a.id).getD 0 = a.tries
  cz : ∀ id, last < id → lkp cs id = none
  hold : ∀ a ∈ A, a.state = 2 → now < a.til
section
variable {A : List Jb} {tries last now : Int} {es : List (Int × Bool)} {cs : List (Int × Int)}
theorem LI.nil (tries : Int) : LI [] tries 0 0 [] [] := ⟨by simp, by simp, fun id => by simp [lkp], rfl, fun a h => (by cases h), fun id h => rfl, fun a h => (by cases h)⟩
theorem puE_len {α : Type} {es : List (Int × α)} {k : Int} {v : α} : (Eng.putE es k v).length = es.length + if has es k then 0 else 1 := by
  unfold Eng.putE
  split
  · unfold Zy; simp
  · simp
theorem LI.off (l : LI A tries last now es cs) (ha : AOk A last) : (lkp es (last + 1)).getD false = false := by
  cases h : lkp es (last + 1) with
  | none => rfl
  | some o =>
    cases o with
    | false => rfl
    | true =>
      obtain ⟨a, h1, h2⟩ := List.mem_map.1 ((l.th _).1 h)
      have := ha.le a h1
      omega
theorem LI.put (l : LI A tries last now es cs) (ha : AOk A last) (prio : Int) (body : ByteArray) : LI (A ++ [newJ (last + 1) prio body]) tries (last + 1) now (Eng.putE es (last + 1) true) cs := by
  refine ⟨nd_put l.nd _ _, ?_, fun id => ?_, ?_, fun a h => ?_, fun id h => l.cz id (by omega), fun a h hs => ?_⟩
  · rw [puE_len]; have := l.el; split <;> omega
  · rw [Zf, List.map_append, List.mem_append]
    by_cases h : last + 1 = id
    · rw [if_pos h]; subst h; simp [newJ]
    · rw [if_neg h, l.th id]
      have : ¬ id = last + 1 := fun e => h e.symm
      simp [newJ, this]
  · have := cnt_put l.nd (last + 1) true
    rw [l.off ha] at this
    simp at this
    rw [this, l.cn]; simp
  · rcases List.mem_append.1 h with h | h
    · exact l.ct a h
    · rw [List.mem_singleton.1 h]
      show (lkp cs (last + 1)).getD 0 = 0
      rw [l.cz _ (by omega)]; rfl
  · rcases List.mem_append.1 h with h | h
    · exact l.hold a h hs
    · rw [List.mem_singleton.1 h] at hs; cases hs
theorem LI.rep (l : LI A tries last now es cs) (ha : AOk A last) {j : Jb} (hj : (fnd A j.id).isSome = true) (cs' : List (Int × Int)) (c1 : (lkp cs' j.id).getD 0 = j.tries) (c2 : ∀ id, id ≠ j.id → lkp cs' id = lkp cs id) (c3 : j.state = 2 → now < j.til) : LI (Vz A j) tries last now es cs' := by
  refine ⟨l.nd, l.el, fun id => by rw [l.th, ids_rep], by rw [l.cn]; unfold Vz; simp, fun a h => ?_, fun id h => ?_, fun a h hs => ?_⟩
  · rcases (ZU ha.inc hj).1 h with rfl | ⟨h, hn⟩
    · exact c1
    · rw [c2 _ hn]; exact l.ct a h
  · rw [c2 id ?_]
    · exact l.cz id h
    · rintro rfl
      obtain ⟨o, ho⟩ := Option.isSome_iff_exists.1 hj
      obtain ⟨h1, h2⟩ := XG ho
      have := ha.le o h1
      omega
  · rcases (ZU ha.inc hj).1 h with rfl | ⟨h, hn⟩
    · exact c3 hs
    · exact l.hold a h hs
theorem len_del {id : Int} : ∀ {A : List Jb}, A.Pairwise (fun a b => a.id < b.id) → id ∈ A.map (·.id) → (delJ A id).length + 1 = A.length
  | [], _, h => by cases h
  | a :: A, hp, h => by
    obtain ⟨h1, h2⟩ := List.pairwise_cons.1 hp
    by_cases he : a.id = id
    · have : delJ (a :: A) id = A := by
        unfold delJ
        rw [List.filter_cons_of_neg (by simp [he])]
        exact List.filter_eq_self.2 fun x hx => by have := h1 x hx; simp; omega
      rw [this]; rfl
    · have : delJ (a :: A) id = a :: delJ A id := by
        unfold delJ
        rw [List.filter_cons_of_pos (by simp [he])]
      rw [this]
      have hm : id ∈ A.map (·.id) := by
        rcases List.mem_cons.1 h with h | h
        · exact absurd h.symm he
        · exact h
      have := len_del h2 hm
      simp only [List.length_cons]
      omega
theorem LI.del (l : LI A tries last now es cs) (ha : AOk A last) {id : Int} (hj : id ∈ A.map (·.id)) : LI (delJ A id) tries last now (Eng.putE es id false) cs := by
  have hl := (l.th id).2 hj
  refine ⟨nd_put l.nd _ _, ?_, fun k => ?_, ?_, fun a h => l.ct a (Wb.1 h).1, l.cz, fun a h hs => l.hold a (Wb.1 h).1 hs⟩
  · rw [puE_len, show has es id = true by unfold has; rw [hl]; rfl]; exact l.el
  · rw [Zf]
    by_cases h : id = k
    · subst h
      rw [if_pos rfl]
      refine ⟨fun h => (by cases h), fun h => ?_⟩
      obtain ⟨a, h1, h2⟩ := List.mem_map.1 h
      exact absurd h2 (Wb.1 h1).2
    · rw [if_neg h, l.th k]
      constructor
      · intro hk
        obtain ⟨a, h1, h2⟩ := List.mem_map.1 hk
        exact List.mem_map.2 ⟨a, Wb.2 ⟨h1, fun e => h (e.symm.trans h2)⟩, h2⟩
      · intro hk
        obtain ⟨a, h1, h2⟩ := List.mem_map.1 hk
        exact List.mem_map.2 ⟨a, (Wb.1 h1).1, h2⟩
  · have h1 := cnt_put l.nd id false
    rw [hl] at h1
    simp at h1
    have h2 := len_del ha.inc hj
    have := l.cn
    omega
theorem LI.pass (l : LI A tries last now es cs) (tick : Int) : LI (passJ A tries tick) tries last tick es cs := by
  have hid : (passJ A tries tick).map (·.id) = A.map (·.id) := by
    unfold passJ
    rw [List.map_map]
    apply List.map_congr_left
    intro a _
    simp only [Function.comp]
    split <;> rfl
  refine ⟨l.nd, l.el, fun id => by rw [hid]; exact l.th id, by rw [l.cn]; unfold passJ; simp, fun a h => ?_, l.cz, fun a h hs => ?_⟩
  · unfold passJ at h
    obtain ⟨b, hb, rfl⟩ := List.mem_map.1 h
    split
    · exact l.ct b hb
    · exact l.ct b hb
  · unfold passJ at h
    obtain ⟨b, hb, rfl⟩ := List.mem_map.1 h
    split at hs
    · unfold Wk at hs
      simp only at hs
      split at hs <;> omega
    · rename_i hc
      rw [if_neg hc]
      rcases (by omega : tick < b.til ∨ b.til ≤ tick) with h1 | h1
      · exact h1
      · exact absurd ⟨hs, h1⟩ hc
theorem first_wait {n : Int} (ha : AOk A n) {j : Jb} {t : List Jb} (hj : UX A = j :: t) : j ∈ A ∧ j.state = 1 ∧ ∀ b ∈ A, (b.id = j.id → b.state = 1) ∧ (b.state = 1 → b.prio ≤ j.prio) := by
  have hm : j ∈ UX A := by rw [hj]; simp
  unfold UX at hm
  obtain ⟨h1, h2⟩ := List.mem_filter.1 hm
  have hjA := V1.1 h1
  have hs : j.state = 1 := by simpa using h2
  refine ⟨hjA, hs, fun b hb => ⟨fun he => by rw [Q4 ha.inc hb hjA he]; exact hs, fun hbs => ?_⟩⟩
  have hbw : b ∈ UX A := by
    unfold UX
    exact List.mem_filter.2 ⟨V1.2 hb, by simpa using hbs⟩
  have hsort : (UX A).Pairwise fun a b => befJ a b = true := by unfold UX; exact ha.sj.filter _
  rw [hj] at hbw hsort
  rcases List.mem_cons.1 hbw with rfl | h
  · omega
  · have := (List.pairwise_cons.1 hsort).1 b h
    rw [ZL] at this
    unfold UU at this
    rw [if_pos hs, if_pos hbs] at this
    omega
end
structure HS (H0 H : AHeap) (bq bm bk bt bc : Nat) (A : List Jb) (tries last now : Int) (es : List (Int × Bool)) (cs : List (Int × Int)) : Prop where
  q : QS H bq bm bk A tries last now
  ft : H.f bt = mapB es
  fc : H.f bc = mapI cs
  tl : bt < H.n
  cl : bc < H.n
  tq : ¬ QB H bq bm bk bt
  cq : ¬ QB H bq bm bk bc
  tc : bt ≠ bc
  st : Yq H0 H
  nq : ∀ c, QB H bq bm bk c → H0.n ≤ c
  nt : H0.n ≤ bt
  nc : H0.n ≤ bc
section
variable {H0 H H' : AHeap} {bq bm bk bt bc : Nat} {A A' : List Jb} {tries last now last' now' : Int} {es es' : List (Int × Bool)} {cs cs' : List (Int × Int)}
theorem HS.still (p : HS H0 H bq bm bk bt bc A tries last now es cs) (s : Yq H H') : HS H0 H' bq bm bk bt bc A tries last now es cs :=
  ⟨p.q.still s, by rw [s.f p.tl fun h => h]; exact p.ft, by rw [s.f p.cl fun h => h]; exact p.fc, Nat.lt_of_lt_of_le p.tl s.n, Nat.lt_of_lt_of_le p.cl s.n, fun h => p.tq (h.still p.q.r.mdl s), fun h => p.cq (h.still p.q.r.mdl s), p.tc, p.st.trans s, fun c h => p.nq c (h.still p.q.r.mdl s), p.nt, p.nc⟩
theorem HS.queue (p : HS H0 H bq bm bk bt bc A tries last now es cs) (u : UpQ H bq bm bk H') (q' : QS H' bq bm bk A' tries last' now') : HS H0 H' bq bm bk bt bc A' tries last' now' es cs := by
  have hq : ∀ c, QB H' bq bm bk c → QB H bq bm bk c ∨ H.n ≤ c := fun c h => by
    rcases h with h | h | h
    · exact .inl (.inl h)
    · exact .inl (.inr (.inl h))
    · exact (u.mb c h).imp (fun h => .inr (.inr h)) id
  have h1 := p.tl
  have h2 := p.cl
  refine ⟨q', by rw [u.fr.f p.tl p.tq]; exact p.ft, by rw [u.fr.f p.cl p.cq]; exact p.fc, Nat.lt_of_lt_of_le p.tl u.fr.n, Nat.lt_of_lt_of_le p.cl u.fr.n, fun h => ?_, fun h => ?_, p.tc, p.st.then u.fr fun b hb h => by have := p.nq b h; omega, fun c h => ?_, p.nt, p.nc⟩
  · rcases hq _ h with h | h
    · exact p.tq h
    · omega
  · rcases hq _ h with h | h
    · exact p.cq h
    · omega
  · rcases hq c h with h | h
    · exact p.nq c h
    · exact Nat.le_trans p.st.n h
theorem HS.there (p : HS H0 H bq bm bk bt bc A tries last now es cs) (h : H.set bt (mapB es') = H') : HS H0 H' bq bm bk bt bc A tries last now es' cs := by
  obtain ⟨s, n, f, _⟩ := YG h
  have hd : ∀ c, QB H bq bm bk c → ¬ c = bt := fun c h1 h2 => p.tq (h2 ▸ h1)
  have hm := Z6 p.q.r.mdl s fun c hc => hd c (.inr (.inr hc))
  have hq : ∀ c, QB H' bq bm bk c → QB H bq bm bk c := fun c h => h.imp id fun h => h.imp id (hm.2 c)
  exact ⟨⟨p.q.ok.fr s, p.q.r.keep s hd, p.q.i⟩, f, by rw [s.f p.cl fun h => p.tc h.symm]; exact p.fc, by rw [n]; exact p.tl, by rw [n]; exact p.cl, fun h => p.tq (hq _ h), fun h => p.cq (hq _ h), p.tc, p.st.then s fun b hb h => by have := p.nt; omega, fun c h => p.nq c (hq c h), p.nt, p.nc⟩
theorem HS.count (p : HS H0 H bq bm bk bt bc A tries last now es cs) (h : H.set bc (mapI cs') = H') : HS H0 H' bq bm bk bt bc A tries last now es cs' := by
  obtain ⟨s, n, f, _⟩ := YG h
  have hd : ∀ c, QB H bq bm bk c → ¬ c = bc := fun c h1 h2 => p.cq (h2 ▸ h1)
  have hm := Z6 p.q.r.mdl s fun c hc => hd c (.inr (.inr hc))
  have hq : ∀ c, QB H' bq bm bk c → QB H bq bm bk c := fun c h => h.imp id fun h => h.imp id (hm.2 c)
  exact ⟨⟨p.q.ok.fr s, p.q.r.keep s hd, p.q.i⟩, by rw [s.f p.tl fun h => p.tc h]; exact p.ft, f, by rw [n]; exact p.tl, by rw [n]; exact p.cl, fun h => p.tq (hq _ h), fun h => p.cq (hq _ h), p.tc, p.st.then s fun b hb h => by have := p.nc; omega, fun c h => p.nq c (hq c h), p.nt, p.nc⟩
end
end Go.Proofs.YtmiinbhnfojnbaaDoor

set_option maxRecDepth 10000
namespace Go.Proofs.YtmiinbhnfojnbaaDoor
open Go Eng
attribute [local congr] YX YZ YR
theorem l_before (J : List Jb) (hJ : J.length ≤ 1000) (x : Jb) (hx : ∀ b ∈ J, (b.id = x.id → b.state = 1) ∧ (b.state = 1 → b.prio ≤ x.prio)) (v0 v1 v5 v7 v8 v9 v11 : Value) (b14 : Nat) (H : AHeap) (r : Rd EJb H v11 J) (f : H.f b14 = .cells [.int .i64 x.id, .int .i64 x.prio, .string x.body, .int .i64 x.state, .int .i64 x.tries, .int .i64 x.who, .int .i64 x.til] T.api_Job true) :
    ∀ (t : List Jb) (i : Nat), J.drop i = t → ∀ K : K, Xq v0 v1 v5 v7 v8 v9 v11 (.pointer (some ⟨b14, 0, none⟩)) (.int .i64 (i : Int)) H (YI [0, 1, 5, 7, 8, 9] 3 K) = K .normal [(0, v0), (1, v1), (5, v5), (7, v7), (8, v8), (9, v9)] H
  | [], i, hd, K => by
    have h : J.length ≤ i := List.drop_eq_nil_iff.1 hd
    have hlt : ¬ (i : Int) < (J.length : Int) := by omega
    have hlen := r.lenS
    rw [Zd]
    simp (disch := first | with_reducible rfl | assumption | omega | rfl | (simp only [go_sem]; first | done | omega)) only [go_sem, ↓reduceIte, reduceCtorEq, Nat.reduceEqDiff, Nat.reduceAdd, Nat.reduceSub, Nat.reduceMul, Nat.reduceDiv, Nat.reduceMod, Nat.reduceLeDiff, Nat.reduceLT, Nat.reduceBEq, Int.reduceEq, Int.reduceBEq, Int.reduceBNe, Int.reduceLT, Int.reduceLE, Int.reduceAdd, Int.reduceSub, Int.reduceNeg, Int.reduceToNat, Int.reducePow, Nat.reducePow, Int.reduceMul, Int.reduceDiv, ↓X1, hlen, hlt]
  | b :: t, i, hd, K => by
    obtain ⟨h, hb, hd'⟩ := WB hd
    have hlt : (i : Int) < (J.length : Int) := by omega
    have hlen := r.lenS
    have hi : i < 1000 := by omega
    have e1 : ((i : Int) + 1) = ((i + 1 : Nat) : Int) := by omega
    have ih := l_before J hJ x hx v0 v1 v5 v7 v8 v9 v11 b14 H r f t (i + 1) hd' K
    rw [← e1] at ih
    obtain ⟨b1, o1, ix, l1, cb, _⟩ := rd_job r h
    rw [hb] at cb
    have c0 : X4 (H.f b1) o1 = some (.int .i64 b.id) := X2 cb (i := 0) (by decide)
    have c1 : X4 (H.f b1) (o1 + 1) = some (.int .i64 b.prio) := X2 cb (i := 1) (by decide)
    have c3 : X4 (H.f b1) (o1 + 3) = some (.int .i64 b.state) := X2 cb (i := 3) (by decide)
    obtain ⟨x1, x2⟩ := hx b (by rw [← hb]; exact List.getElem_mem h)
    rw [Zd]
    by_cases h1 : b.id = x.id
    · have h2 := x1 h1
      have h3 : ¬ x.prio < b.prio := by have := x2 h2; omega
      simp (disch := first | with_reducible rfl | assumption | omega | rfl | (simp only [go_sem]; first | done | omega)) only [go_sem, ↓reduceIte, reduceCtorEq, Nat.reduceEqDiff, Nat.reduceAdd, Nat.reduceSub, Nat.reduceMul, Nat.reduceDiv, Nat.reduceMod, Nat.reduceLeDiff, Nat.reduceLT, Nat.reduceBEq, Int.reduceEq, Int.reduceBEq, Int.reduceBNe, Int.reduceLT, Int.reduceLE, Int.reduceAdd, Int.reduceSub, Int.reduceNeg, Int.reduceToNat, Int.reducePow, Nat.reducePow, Int.reduceMul, Int.reduceDiv, ↓X1, hlen, hlt, ix, c0, c1, c3, f, eq_true h1, eq_true h2, h3]
      exact ih
    · by_cases h2 : b.state = 1
      · have h3 : ¬ x.prio < b.prio := by have := x2 h2; omega
        simp (disch := first | with_reducible rfl | assumption | omega | rfl | (simp only [go_sem]; first | done | omega)) only [go_sem, ↓reduceIte, reduceCtorEq, Nat.reduceEqDiff, Nat.reduceAdd, Nat.reduceSub, Nat.reduceMul, Nat.reduceDiv, Nat.reduceMod, Nat.reduceLeDiff, Nat.reduceLT, Nat.reduceBEq, Int.reduceEq, Int.reduceBEq, Int.reduceBNe, Int.reduceLT, Int.reduceLE, Int.reduceAdd, Int.reduceSub, Int.reduceNeg, Int.reduceToNat, Int.reducePow, Nat.reducePow, Int.reduceMul, Int.reduceDiv, ↓X1, hlen, hlt, ix, c0, c1, c3, f, h1, eq_true h2, h3]
        exact ih
      · simp (disch := first | with_reducible rfl | assumption | omega | rfl | (simp only [go_sem]; first | done | omega)) only [go_sem, ↓reduceIte, reduceCtorEq, Nat.reduceEqDiff, Nat.reduceAdd, Nat.reduceSub, Nat.reduceMul, Nat.reduceDiv, Nat.reduceMod, Nat.reduceLeDiff, Nat.reduceLT, Nat.reduceBEq, Int.reduceEq, Int.reduceBEq, Int.reduceBNe, Int.reduceLT, Int.reduceLE, Int.reduceAdd, Int.reduceSub, Int.reduceNeg, Int.reduceToNat, Int.reducePow, Nat.reducePow, Int.reduceMul, Int.reduceDiv, ↓X1, hlen, hlt, ix, c0, c1, c3, f, h1, h2]
        exact ih
theorem l_now (J : List Jb) (hJ : J.length ≤ 1000) (es : List (Int × Bool)) (now : Int) (bq bt : Nat) (v0 v1 v8 v9 v17 : Value) (H : AHeap) (r : Rd EJb H v17 J) (ft : H.f bt = mapB es) (mn : CC F.jobs_Queue_Now [.pointer (some ⟨bq, 0, none⟩)] H = some (.int .i64 now, H))
    (hx : ∀ b ∈ J, lkp es b.id = some true ∧ (b.state = 2 → now < b.til)) :
    ∀ (t : List Jb) (i : Nat), J.drop i = t → ∀ K : K, Xs v0 v1 (.pointer (some ⟨bq, 0, none⟩)) (.map (some bt)) v8 v9 v17 (.int .i64 (i : Int)) H (YI [0, 1, 5, 7, 8, 9] 7 K) = K .normal [(0, v0), (1, v1), (5, .pointer (some ⟨bq, 0, none⟩)), (7, .map (some bt)), (8, v8), (9, v9)] H
  | [], i, hd, K => by
    have h : J.length ≤ i := List.drop_eq_nil_iff.1 hd
    have hlt : ¬ (i : Int) < (J.length : Int) := by omega
    have hlen := r.lenS
    rw [Zi]
    simp (disch := first | with_reducible rfl | assumption | omega | rfl | (simp only [go_sem]; first | done | omega)) only [go_sem, ↓reduceIte, reduceCtorEq, Nat.reduceEqDiff, Nat.reduceAdd, Nat.reduceSub, Nat.reduceMul, Nat.reduceDiv, Nat.reduceMod, Nat.reduceLeDiff, Nat.reduceLT, Nat.reduceBEq, Int.reduceEq, Int.reduceBEq, Int.reduceBNe, Int.reduceLT, Int.reduceLE, Int.reduceAdd, Int.reduceSub, Int.reduceNeg, Int.reduceToNat, Int.reducePow, Nat.reducePow, Int.reduceMul, Int.reduceDiv, ↓WG, hlen, hlt]
  | b :: t, i, hd, K => by
    obtain ⟨h, hb, hd'⟩ := WB hd
    have hlt : (i : Int) < (J.length : Int) := by omega
    have hlen := r.lenS
    have hi : i < 1000 := by omega
    have e1 : ((i : Int) + 1) = ((i + 1 : Nat) : Int) := by omega
    have ih := l_now J hJ es now bq bt v0 v1 v8 v9 v17 H r ft mn hx t (i + 1) hd' K
    rw [← e1] at ih
    obtain ⟨b1, o1, ix, l1, cb, _⟩ := rd_job r h
    rw [hb] at cb
    have c0 : X4 (H.f b1) o1 = some (.int .i64 b.id) := X2 cb (i := 0) (by decide)
    have c3 : X4 (H.f b1) (o1 + 3) = some (.int .i64 b.state) := X2 cb (i := 3) (by decide)
    have c6 : X4 (H.f b1) (o1 + 6) = some (.int .i64 b.til) := X2 cb (i := 6) (by decide)
    obtain ⟨x1, x2⟩ := hx b (by rw [← hb]; exact List.getElem_mem h)
    have lk := there_look ft b.id
    rw [x1] at lk
    rw [Zi]
    by_cases h2 : b.state = 2
    · have h3 : ¬ b.til ≤ now := by have := x2 h2; omega
      simp (disch := first | with_reducible rfl | assumption | omega | rfl | (simp only [go_sem]; first | done | omega)) only [go_sem, ↓reduceIte, reduceCtorEq, Nat.reduceEqDiff, Nat.reduceAdd, Nat.reduceSub, Nat.reduceMul, Nat.reduceDiv, Nat.reduceMod, Nat.reduceLeDiff, Nat.reduceLT, Nat.reduceBEq, Int.reduceEq, Int.reduceBEq, Int.reduceBNe, Int.reduceLT, Int.reduceLE, Int.reduceAdd, Int.reduceSub, Int.reduceNeg, Int.reduceToNat, Int.reducePow, Nat.reducePow, Int.reduceMul, Int.reduceDiv, ↓WG, hlen, hlt, ix, c0, c3, c6, lk, Option.getD_some, eq_true h2, ↓Ya mn, Ya mn, h3]
      exact ih
    · simp (disch := first | with_reducible rfl | assumption | omega | rfl | (simp only [go_sem]; first | done | omega)) only [go_sem, ↓reduceIte, reduceCtorEq, Nat.reduceEqDiff, Nat.reduceAdd, Nat.reduceSub, Nat.reduceMul, Nat.reduceDiv, Nat.reduceMod, Nat.reduceLeDiff, Nat.reduceLT, Nat.reduceBEq, Int.reduceEq, Int.reduceBEq, Int.reduceBNe, Int.reduceLT, Int.reduceLE, Int.reduceAdd, Int.reduceSub, Int.reduceNeg, Int.reduceToNat, Int.reducePow, Nat.reducePow, Int.reduceMul, Int.reduceDiv, ↓WG, hlen, hlt, ix, c0, c3, c6, lk, Option.getD_some, h2]
      exact ih
section
variable {H0 H : AHeap} {bq bm bk bt bc : Nat} {A : List Jb} {tries last now : Int} {es : List (Int × Bool)} {cs : List (Int × Int)}
theorem HS.after (p : HS H0 H bq bm bk bt bc A tries last now es cs) (l : LI A tries last now es cs) :
    ∃ v H', CC F.jobs_Queue_Jobs [.pointer (some ⟨bq, 0, none⟩)] H = some (v, H') ∧ HS H0 H' bq bm bk bt bc A tries last now es cs ∧ lenS v = some (.int .i64 (A.length : Int)) ∧
      (∀ v0 v1 v5 v8 v9 v17 k, Xt v0 v1 v5 (.map (some bt)) v8 v9 v17 (.int .i64 0) H' k = k .normal [(0, v0), (1, v1), (5, v5), (7, .map (some bt)), (8, v8), (9, v9), (17, v17), (18, .int .i64 (A.length : Int))] H') ∧
      ∀ v0 v1 v8 v9 (K : K), Xs v0 v1 (.pointer (some ⟨bq, 0, none⟩)) (.map (some bt)) v8 v9 v (.int .i64 0) H' (YI [0, 1, 5, 7, 8, 9] 7 K) = K .normal [(0, v0), (1, v1), (5, .pointer (some ⟨bq, 0, none⟩)), (7, .map (some bt)), (8, v8), (9, v9)] H' := by
  obtain ⟨v, H', m, so⟩ := q_QJobs bq bm bk A tries last now H p.q.ok p.q.r p.q.i
  have p' := p.still so.still
  have hlen := so.own.rd.lenS
  rw [Gk] at hlen
  have hAl := p.q.i.len
  have hl := p.q.i.l
  refine ⟨v, H', m, p', hlen, fun v0 v1 v5 v8 v9 v17 k => ?_, fun v0 v1 v8 v9 K => ?_⟩
  · have := o_range v0 v1 v5 v8 v9 v17 H' bt es p'.ft l.nd (by have := l.el; omega) k
    rw [l.cn] at this
    exact this
  · refine l_now (Vr A) (by rw [Gk]; omega) es now bq bt v0 v1 v8 v9 v H' so.own.rd p'.ft (q_QNow bq bm bk A tries last now H' p'.q.r) (fun b hb => ?_) (Vr A) 0 rfl K
    have hb' := V1.1 hb
    exact ⟨(l.th _).2 (List.mem_map_of_mem hb'), l.hold b hb'⟩
end
end Go.Proofs.YtmiinbhnfojnbaaDoor

set_option maxRecDepth 10000
namespace Go.Proofs.YtmiinbhnfojnbaaDoor
open Go Eng
attribute [local congr] YX YZ YR
structure Pre (H0 H : AHeap) (bq bm bk bt bc : Nat) (A : List Jb) (tries last now : Int) (es : List (Int × Bool)) (cs : List (Int × Int)) (a : Act) (vb : Value) (H1 H2 H3 : AHeap) : Prop where
  h1 : H.push (.cells [.int .i64 0, .int .i64 0, .int .i64 0, .string (Eng.mk [])] T.law_Act true) = H1
  g1 : H1.f H.n = .cells [.int .i64 0, .int .i64 0, .int .i64 0, .string (Eng.mk [])] T.law_Act true
  h2 : H1.set H.n (.cells [.int .i64 a.what, .int .i64 a.who, .int .i64 a.n, .string a.body] T.law_Act true) = H2
  m : CC F.jobs_Queue_Jobs [.pointer (some ⟨bq, 0, none⟩)] H2 = some (vb, H3)
  so : SinceE EJb T.api_Job H2 H3 vb (Vr A)
  n2 : H2.n = H.n + 1
  lt : H.n < H3.n
  f3 : H3.f H.n = .cells [.int .i64 a.what, .int .i64 a.who, .int .i64 a.n, .string a.body] T.law_Act true
  p : HS H0 H3 bq bm bk bt bc A tries last now es cs
  nq : ∀ c, QB H3 bq bm bk c → c < H.n
  nt : bt < H.n
  nc : bc < H.n
section
variable {H0 H : AHeap} {bq bm bk bt bc : Nat} {A : List Jb} {tries last now : Int} {es : List (Int × Bool)} {cs : List (Int × Int)}
theorem HS.pre (p : HS H0 H bq bm bk bt bc A tries last now es cs) (a : Act) : ∃ vb H1 H2 H3, Pre H0 H bq bm bk bt bc A tries last now es cs a vb H1 H2 H3 := by
  obtain ⟨H1, hH1⟩ : ∃ H1, H.push (.cells [.int .i64 0, .int .i64 0, .int .i64 0, .string (Eng.mk [])] T.law_Act true) = H1 := ⟨_, rfl⟩
  obtain ⟨s1, n1, f1⟩ := YL hH1
  obtain ⟨H2, hH2⟩ : ∃ H2, H1.set H.n (.cells [.int .i64 a.what, .int .i64 a.who, .int .i64 a.n, .string a.body] T.law_Act true) = H2 := ⟨_, rfl⟩
  obtain ⟨s2, n2, f2, _⟩ := YG hH2
  have s12 : Yq H H2 := s1.then s2 fun b hb h => by omega
  have p2 := p.still s12
  obtain ⟨vb, H3, m, so⟩ := q_QJobs bq bm bk A tries last now H2 p2.q.ok p2.q.r p2.q.i
  have s3 := so.still
  have n3 := s3.n
  exact ⟨vb, H1, H2, H3, hH1, f1, hH2, m, so, by omega, by omega, by rw [s3.f (by omega) fun h => h]; exact f2, p2.still s3, fun c h => p.q.r.blk (h.still p.q.r.mdl (s12.trans s3)), p.tl, p.cl⟩
def QF (H0 H : AHeap) (bq bm bk bt bc : Nat) (tries : Int) (w : Value) (i : Nat) (last : Int) : Prop :=
  ∃ H' A' last' now' es' cs', last' ≤ last + 1 ∧ HS H0 H' bq bm bk bt bc A' tries last' now' es' cs' ∧ LI A' tries last' now' es' cs' ∧
    ∀ K : K, Y4 (.int .i64 tries) w (.pointer (some ⟨bq, 0, none⟩)) (.map (some bt)) (.map (some bc)) (.int .i64 (i : Int)) H (YI [] 0 K) = Y4 (.int .i64 tries) w (.pointer (some ⟨bq, 0, none⟩)) (.map (some bt)) (.map (some bc)) (.int .i64 ((i : Int) + 1)) H' (YI [] 0 K)
theorem QS.put (q : QS H bq bm bk A tries last now) (hl : last < 900) (prio : Int) (body : ByteArray) (h : U3 prio body = 0) :
    ∃ H', CC F.jobs_Queue_Put [.pointer (some ⟨bq, 0, none⟩), .int .i64 prio, .string body] H = some (.tuple #[.int .i64 (last + 1), .int .i64 0], H') ∧ QS H' bq bm bk (A ++ [newJ (last + 1) prio body]) tries (last + 1) now ∧ UpQ H bq bm bk H' := by
  have hb : ¬ (prio < 0 ∨ 9 < prio) := fun c => by unfold U3 at h; rw [if_pos c] at h; cases h
  have hc : ¬ 15 < (bl body).length := fun c => by unfold U3 at h; rw [if_neg hb, if_pos c] at h; cases h
  obtain ⟨H1, m1, r1, u1⟩ := q_QPut bq bm bk A tries last now prio body H q.ok q.r q.i hl (by omega) (by omega)
  have hll := q.i.l
  have ht := q.i.t
  refine ⟨H1, m1, ⟨q.ok.fr u1.fr, r1, q.i.a.put (newJ_ok (by omega) (by omega) (by omega)) rfl, q.i.t, by omega, q.i.n, fun a ha hs => ?_⟩, u1⟩
  rcases List.mem_append.1 ha with h1 | h1
  · exact q.i.w a h1 hs
  · rw [List.mem_singleton.1 h1]; show (0 : Int) < tries; omega
set_option maxHeartbeats 1000000 in
theorem step_none (p : HS H0 H bq bm bk bt bc A tries last now es cs) (l : LI A tries last now es cs) (L : List Act) (hL : L.length ≤ 36) (w : Value) (hr : Rd EAct H0 w L) (i : Nat) (h : i < L.length) (a : Act) (ha : L[i] = a)
    (w0 : ¬ a.what = 0) (w1 : ¬ a.what = 1) (w2 : ¬ a.what = 2) (w3 : ¬ a.what = 3) (w4 : ¬ a.what = 4) (w5 : ¬ a.what = 5) : QF H0 H bq bm bk bt bc tries w i last := by
  have hlt : (i : Int) < (L.length : Int) := by omega
  have hrH := hr.still p.st
  have hlen := hrH.lenS
  obtain ⟨b1, o1, ix, l1, cb⟩ := Gr hrH h
  rw [ha] at cb
  have hi : i < 36 := by omega
  obtain ⟨vb, H1, H2, H3, P⟩ := p.pre a
  obtain ⟨ve, He, mj, pe, hle, eo, en⟩ := P.p.after l
  refine ⟨He, A, last, now, es, cs, by omega, pe, l, fun K => ?_⟩
  rw [YJ]
  simp (disch := first | with_reducible rfl | assumption | omega | rfl | (simp only [go_sem]; first | done | omega)) only [go_sem, ↓reduceIte, reduceCtorEq, Nat.reduceEqDiff, Nat.reduceAdd, Nat.reduceSub, Nat.reduceMul, Nat.reduceDiv, Nat.reduceMod, Nat.reduceLeDiff, Nat.reduceLT, Nat.reduceBEq, Int.reduceEq, Int.reduceBEq, Int.reduceBNe, Int.reduceLT, Int.reduceLE, Int.reduceAdd, Int.reduceSub, Int.reduceNeg, Int.reduceToNat, Int.reducePow, Nat.reducePow, Int.reduceMul, Int.reduceDiv, ↓Yw, hlen, hlt, ix, cb, P.h1, P.g1, P.h2, Ya P.m, P.f3, w0, w1, w2, w3, w4, w5, ↓Ya mj, Ya mj, eo, hle, en]
set_option maxHeartbeats 1000000 in
theorem step_put (p : HS H0 H bq bm bk bt bc A tries last now es cs) (l : LI A tries last now es cs) (hl : last < 900) (L : List Act) (hL : L.length ≤ 36) (w : Value) (hr : Rd EAct H0 w L) (i : Nat) (h : i < L.length) (a : Act) (ha : L[i] = a)
    (hw : a.what = 0) : QF H0 H bq bm bk bt bc tries w i last := by
  have hlt : (i : Int) < (L.length : Int) := by omega
  have hrH := hr.still p.st
  have hlen := hrH.lenS
  obtain ⟨b1, o1, ix, l1, cb⟩ := Gr hrH h
  rw [ha] at cb
  have hi : i < 36 := by omega
  obtain ⟨vb, H1, H2, H3, P⟩ := p.pre a
  by_cases hb : U3 a.n a.body = 0
  · obtain ⟨H4, m4, q4, u4⟩ := P.p.q.put hl a.n a.body hb
    have p4 := P.p.queue u4 q4
    have lk := there_look p4.ft (last + 1)
    rw [l.off p.q.i.a] at lk
    obtain ⟨H5, hH5⟩ : ∃ H5, H4.set bt (mapB (Eng.putE es (last + 1) true)) = H5 := ⟨_, rfl⟩
    have pu := there_put p4.ft (last + 1) true
    rw [hH5] at pu
    have p5 := p4.there hH5
    have l5 := l.put p.q.i.a a.n a.body
    obtain ⟨ve, He, mj, pe, hle, eo, en⟩ := p5.after l5
    refine ⟨He, _, _, _, _, _, by omega, pe, l5, fun K => ?_⟩
    rw [YJ]
    simp (disch := first | with_reducible rfl | assumption | omega | rfl | (simp only [go_sem]; first | done | omega)) only [go_sem, ↓reduceIte, reduceCtorEq, Nat.reduceEqDiff, Nat.reduceAdd, Nat.reduceSub, Nat.reduceMul, Nat.reduceDiv, Nat.reduceMod, Nat.reduceLeDiff, Nat.reduceLT, Nat.reduceBEq, Int.reduceEq, Int.reduceBEq, Int.reduceBNe, Int.reduceLT, Int.reduceLE, Int.reduceAdd, Int.reduceSub, Int.reduceNeg, Int.reduceToNat, Int.reducePow, Nat.reducePow, Int.reduceMul, Int.reduceDiv, ↓Yw, hlen, hlt, ix, cb, P.h1, P.g1, P.h2, Ya P.m, P.f3, eq_true hw, ↓Ya m4, Ya m4, lk, pu, ↓Ya mj, Ya mj, eo, hle, en]
  · have m4 := q_QPut_bad bq bm bk A tries last now a.n a.body H3 P.p.q.r hb
    generalize U3 a.n a.body = e at hb m4
    obtain ⟨ve, He, mj, pe, hle, eo, en⟩ := P.p.after l
    refine ⟨He, A, last, now, es, cs, by omega, pe, l, fun K => ?_⟩
    rw [YJ]
    simp (disch := first | with_reducible rfl | assumption | omega | rfl | (simp only [go_sem]; first | done | omega)) only [go_sem, ↓reduceIte, reduceCtorEq, Nat.reduceEqDiff, Nat.reduceAdd, Nat.reduceSub, Nat.reduceMul, Nat.reduceDiv, Nat.reduceMod, Nat.reduceLeDiff, Nat.reduceLT, Nat.reduceBEq, Int.reduceEq, Int.reduceBEq, Int.reduceBNe, Int.reduceLT, Int.reduceLE, Int.reduceAdd, Int.reduceSub, Int.reduceNeg, Int.reduceToNat, Int.reducePow, Nat.reducePow, Int.reduceMul, Int.reduceDiv, ↓Yw, hlen, hlt, ix, cb, P.h1, P.g1, P.h2, Ya P.m, P.f3, eq_true hw, ↓Ya m4, Ya m4, hb, ↓Ya mj, Ya mj, eo, hle, en]
end
end Go.Proofs.YtmiinbhnfojnbaaDoor

set_option maxRecDepth 10000
namespace Go.Proofs.YtmiinbhnfojnbaaDoor
open Go Eng
attribute [local congr] YX YZ YR
section
variable {H0 H : AHeap} {bq bm bk bt bc : Nat} {A : List Jb} {tries last now : Int} {es : List (Int × Bool)} {cs : List (Int × Int)}
theorem ids_of {id : Int} {j : Jb} (h : fnd A id = some j) : id ∈ A.map (·.id) := List.mem_map.2 ⟨j, (XG h).1, (XG h).2⟩
set_option maxHeartbeats 1000000 in
theorem step_finish (p : HS H0 H bq bm bk bt bc A tries last now es cs) (l : LI A tries last now es cs) (L : List Act) (hL : L.length ≤ 36) (w : Value) (hr : Rd EAct H0 w L) (i : Nat) (h : i < L.length) (a : Act) (ha : L[i] = a)
    (hw : a.what = 2) : QF H0 H bq bm bk bt bc tries w i last := by
  have hlt : (i : Int) < (L.length : Int) := by omega
  have w0 : ¬ a.what = 0 := by omega
  have w1 : ¬ a.what = 1 := by omega
  have hrH := hr.still p.st
  have hlen := hrH.lenS
  obtain ⟨b1, o1, ix, l1, cb⟩ := Gr hrH h
  rw [ha] at cb
  have hi : i < 36 := by omega
  obtain ⟨vb, H1, H2, H3, P⟩ := p.pre a
  by_cases hb : V3 A a.who a.n = 0
  · obtain ⟨j, hj, _⟩ := takenE_ok hb
    obtain ⟨H4, m4, q4, u4⟩ := P.p.q.finish a.who a.n hb
    have p4 := P.p.queue u4 q4
    have f4 : H4.f H.n = .cells [.int .i64 a.what, .int .i64 a.who, .int .i64 a.n, .string a.body] T.law_Act true := by
      rw [u4.fr.f P.lt fun h => by have := P.nq _ h; omega]; exact P.f3
    obtain ⟨H5, hH5⟩ : ∃ H5, H4.set bt (mapB (Eng.putE es a.n false)) = H5 := ⟨_, rfl⟩
    have pu := there_put p4.ft a.n false
    rw [hH5] at pu
    have p5 := p4.there hH5
    have l5 := l.del p.q.i.a (ids_of hj)
    obtain ⟨ve, He, mj, pe, hle, eo, en⟩ := p5.after l5
    refine ⟨He, _, _, _, _, _, by omega, pe, l5, fun K => ?_⟩
    rw [YJ]
    simp (disch := first | with_reducible rfl | assumption | omega | rfl | (simp only [go_sem]; first | done | omega)) only [go_sem, ↓reduceIte, reduceCtorEq, Nat.reduceEqDiff, Nat.reduceAdd, Nat.reduceSub, Nat.reduceMul, Nat.reduceDiv, Nat.reduceMod, Nat.reduceLeDiff, Nat.reduceLT, Nat.reduceBEq, Int.reduceEq, Int.reduceBEq, Int.reduceBNe, Int.reduceLT, Int.reduceLE, Int.reduceAdd, Int.reduceSub, Int.reduceNeg, Int.reduceToNat, Int.reducePow, Nat.reducePow, Int.reduceMul, Int.reduceDiv, ↓Yw, hlen, hlt, ix, cb, P.h1, P.g1, P.h2, Ya P.m, P.f3, w0, w1, eq_true hw, ↓Ya m4, Ya m4, f4, pu, ↓Ya mj, Ya mj, eo, hle, en]
  · have m4 := P.p.q.finishBad a.who a.n hb
    generalize V3 A a.who a.n = e at hb m4
    obtain ⟨ve, He, mj, pe, hle, eo, en⟩ := P.p.after l
    refine ⟨He, A, last, now, es, cs, by omega, pe, l, fun K => ?_⟩
    rw [YJ]
    simp (disch := first | with_reducible rfl | assumption | omega | rfl | (simp only [go_sem]; first | done | omega)) only [go_sem, ↓reduceIte, reduceCtorEq, Nat.reduceEqDiff, Nat.reduceAdd, Nat.reduceSub, Nat.reduceMul, Nat.reduceDiv, Nat.reduceMod, Nat.reduceLeDiff, Nat.reduceLT, Nat.reduceBEq, Int.reduceEq, Int.reduceBEq, Int.reduceBNe, Int.reduceLT, Int.reduceLE, Int.reduceAdd, Int.reduceSub, Int.reduceNeg, Int.reduceToNat, Int.reducePow, Nat.reducePow, Int.reduceMul, Int.reduceDiv, ↓Yw, hlen, hlt, ix, cb, P.h1, P.g1, P.h2, Ya P.m, P.f3, w0, w1, eq_true hw, ↓Ya m4, Ya m4, hb, ↓Ya mj, Ya mj, eo, hle, en]
set_option maxHeartbeats 1000000 in
theorem step_back (p : HS H0 H bq bm bk bt bc A tries last now es cs) (l : LI A tries last now es cs) (L : List Act) (hL : L.length ≤ 36) (w : Value) (hr : Rd EAct H0 w L) (i : Nat) (h : i < L.length) (a : Act) (ha : L[i] = a)
    (hw : a.what = 3) : QF H0 H bq bm bk bt bc tries w i last := by
  have hlt : (i : Int) < (L.length : Int) := by omega
  have w0 : ¬ a.what = 0 := by omega
  have w1 : ¬ a.what = 1 := by omega
  have w2 : ¬ a.what = 2 := by omega
  have hrH := hr.still p.st
  have hlen := hrH.lenS
  obtain ⟨b1, o1, ix, l1, cb⟩ := Gr hrH h
  rw [ha] at cb
  have hi : i < 36 := by omega
  obtain ⟨vb, H1, H2, H3, P⟩ := p.pre a
  by_cases hb : V3 A a.who a.n = 0
  · obtain ⟨j, hj, _⟩ := takenE_ok hb
    obtain ⟨hjA, hid⟩ := XG hj
    obtain ⟨H4, m4, q4, u4⟩ := P.p.q.back a.who a.n j hb hj
    have p4 := P.p.queue u4 q4
    have l5 : LI (Vz A (Wk tries j)) tries last now es cs := l.rep p.q.i.a (j := Wk tries j) (by show (fnd A j.id).isSome = true; rw [hid, hj]; rfl) cs (l.ct j hjA) (fun _ _ => rfl) fun h => by
      unfold Wk at h
      simp only at h
      split at h <;> omega
    obtain ⟨ve, He, mj, pe, hle, eo, en⟩ := p4.after l5
    refine ⟨He, _, _, _, _, _, by omega, pe, l5, fun K => ?_⟩
    rw [YJ]
    simp (disch := first | with_reducible rfl | assumption | omega | rfl | (simp only [go_sem]; first | done | omega)) only [go_sem, ↓reduceIte, reduceCtorEq, Nat.reduceEqDiff, Nat.reduceAdd, Nat.reduceSub, Nat.reduceMul, Nat.reduceDiv, Nat.reduceMod, Nat.reduceLeDiff, Nat.reduceLT, Nat.reduceBEq, Int.reduceEq, Int.reduceBEq, Int.reduceBNe, Int.reduceLT, Int.reduceLE, Int.reduceAdd, Int.reduceSub, Int.reduceNeg, Int.reduceToNat, Int.reducePow, Nat.reducePow, Int.reduceMul, Int.reduceDiv, ↓Yw, hlen, hlt, ix, cb, P.h1, P.g1, P.h2, Ya P.m, P.f3, w0, w1, w2, eq_true hw, ↓Ya m4, Ya m4, ↓Ya mj, Ya mj, eo, hle, en]
  · have m4 := P.p.q.backBad a.who a.n hb
    obtain ⟨ve, He, mj, pe, hle, eo, en⟩ := P.p.after l
    refine ⟨He, A, last, now, es, cs, by omega, pe, l, fun K => ?_⟩
    rw [YJ]
    simp (disch := first | with_reducible rfl | assumption | omega | rfl | (simp only [go_sem]; first | done | omega)) only [go_sem, ↓reduceIte, reduceCtorEq, Nat.reduceEqDiff, Nat.reduceAdd, Nat.reduceSub, Nat.reduceMul, Nat.reduceDiv, Nat.reduceMod, Nat.reduceLeDiff, Nat.reduceLT, Nat.reduceBEq, Int.reduceEq, Int.reduceBEq, Int.reduceBNe, Int.reduceLT, Int.reduceLE, Int.reduceAdd, Int.reduceSub, Int.reduceNeg, Int.reduceToNat, Int.reducePow, Nat.reducePow, Int.reduceMul, Int.reduceDiv, ↓Yw, hlen, hlt, ix, cb, P.h1, P.g1, P.h2, Ya P.m, P.f3, w0, w1, w2, eq_true hw, ↓Ya m4, Ya m4, ↓Ya mj, Ya mj, eo, hle, en]
set_option maxHeartbeats 1000000 in
theorem step_revive (p : HS H0 H bq bm bk bt bc A tries last now es cs) (l : LI A tries last now es cs) (L : List Act) (hL : L.length ≤ 36) (w : Value) (hr : Rd EAct H0 w L) (i : Nat) (h : i < L.length) (a : Act) (ha : L[i] = a)
    (hw : a.what = 4) : QF H0 H bq bm bk bt bc tries w i last := by
  have hlt : (i : Int) < (L.length : Int) := by omega
  have w0 : ¬ a.what = 0 := by omega
  have w1 : ¬ a.what = 1 := by omega
  have w2 : ¬ a.what = 2 := by omega
  have w3 : ¬ a.what = 3 := by omega
  have hrH := hr.still p.st
  have hlen := hrH.lenS
  obtain ⟨b1, o1, ix, l1, cb⟩ := Gr hrH h
  rw [ha] at cb
  have hi : i < 36 := by omega
  obtain ⟨vb, H1, H2, H3, P⟩ := p.pre a
  by_cases hb : reviveE A a.n = 0
  · obtain ⟨j, hj, hs⟩ : ∃ j, fnd A a.n = some j ∧ j.state = 3 := by
      unfold reviveE at hb
      cases hf : fnd A a.n with
      | none => rw [hf] at hb; cases hb
      | some j =>
        rw [hf] at hb
        refine ⟨j, rfl, ?_⟩
        by_cases hs : j.state = 3
        · exact hs
        · simp [hs] at hb
    obtain ⟨hjA, hid⟩ := XG hj
    obtain ⟨H4, m4, q4, u4⟩ := P.p.q.revive a.n j hj hs
    have p4 := P.p.queue u4 q4
    have f4 : H4.f H.n = .cells [.int .i64 a.what, .int .i64 a.who, .int .i64 a.n, .string a.body] T.law_Act true := by
      rw [u4.fr.f P.lt fun h => by have := P.nq _ h; omega]; exact P.f3
    obtain ⟨H5, hH5⟩ : ∃ H5, H4.set bc (mapI (Eng.putE cs a.n 0)) = H5 := ⟨_, rfl⟩
    have pu := count_put p4.fc a.n 0
    rw [hH5] at pu
    have p5 := p4.count hH5
    have l5 : LI (Vz A (Zl j)) tries last now es (Eng.putE cs a.n 0) := l.rep p.q.i.a (j := Zl j) (by show (fnd A j.id).isSome = true; rw [hid, hj]; rfl) _
      (by show (lkp _ j.id).getD 0 = 0; rw [Zf, if_pos hid.symm]; rfl) (fun k hk => by rw [Zf, if_neg fun e => hk (by rw [← e]; exact hid.symm)]) fun h => by cases h
    obtain ⟨ve, He, mj, pe, hle, eo, en⟩ := p5.after l5
    refine ⟨He, _, _, _, _, _, by omega, pe, l5, fun K => ?_⟩
    rw [YJ]
    simp (disch := first | with_reducible rfl | assumption | omega | rfl | (simp only [go_sem]; first | done | omega)) only [go_sem, ↓reduceIte, reduceCtorEq, Nat.reduceEqDiff, Nat.reduceAdd, Nat.reduceSub, Nat.reduceMul, Nat.reduceDiv, Nat.reduceMod, Nat.reduceLeDiff, Nat.reduceLT, Nat.reduceBEq, Int.reduceEq, Int.reduceBEq, Int.reduceBNe, Int.reduceLT, Int.reduceLE, Int.reduceAdd, Int.reduceSub, Int.reduceNeg, Int.reduceToNat, Int.reducePow, Nat.reducePow, Int.reduceMul, Int.reduceDiv, ↓Yw, hlen, hlt, ix, cb, P.h1, P.g1, P.h2, Ya P.m, P.f3, w0, w1, w2, w3, eq_true hw, ↓Ya m4, Ya m4, f4, pu, ↓Ya mj, Ya mj, eo, hle, en]
  · have m4 := q_QRevive_bad bq bm bk A tries last now a.n H3 P.p.q.ok P.p.q.r P.p.q.i hb
    generalize reviveE A a.n = e at hb m4
    obtain ⟨ve, He, mj, pe, hle, eo, en⟩ := P.p.after l
    refine ⟨He, A, last, now, es, cs, by omega, pe, l, fun K => ?_⟩
    rw [YJ]
    simp (disch := first | with_reducible rfl | assumption | omega | rfl | (simp only [go_sem]; first | done | omega)) only [go_sem, ↓reduceIte, reduceCtorEq, Nat.reduceEqDiff, Nat.reduceAdd, Nat.reduceSub, Nat.reduceMul, Nat.reduceDiv, Nat.reduceMod, Nat.reduceLeDiff, Nat.reduceLT, Nat.reduceBEq, Int.reduceEq, Int.reduceBEq, Int.reduceBNe, Int.reduceLT, Int.reduceLE, Int.reduceAdd, Int.reduceSub, Int.reduceNeg, Int.reduceToNat, Int.reducePow, Nat.reducePow, Int.reduceMul, Int.reduceDiv, ↓Yw, hlen, hlt, ix, cb, P.h1, P.g1, P.h2, Ya P.m, P.f3, w0, w1, w2, w3, eq_true hw, ↓Ya m4, Ya m4, hb, ↓Ya mj, Ya mj, eo, hle, en]
set_option maxHeartbeats 1000000 in
theorem step_pass (p : HS H0 H bq bm bk bt bc A tries last now es cs) (l : LI A tries last now es cs) (L : List Act) (hL : L.length ≤ 36) (w : Value) (hr : Rd EAct H0 w L) (i : Nat) (h : i < L.length) (a : Act) (ha : L[i] = a)
    (hw : a.what = 5) : QF H0 H bq bm bk bt bc tries w i last := by
  have hlt : (i : Int) < (L.length : Int) := by omega
  have w0 : ¬ a.what = 0 := by omega
  have w1 : ¬ a.what = 1 := by omega
  have w2 : ¬ a.what = 2 := by omega
  have w3 : ¬ a.what = 3 := by omega
  have w4 : ¬ a.what = 4 := by omega
  have hrH := hr.still p.st
  have hlen := hrH.lenS
  obtain ⟨b1, o1, ix, l1, cb⟩ := Gr hrH h
  rw [ha] at cb
  have hi : i < 36 := by omega
  obtain ⟨vb, H1, H2, H3, P⟩ := p.pre a
  by_cases hb : passE now a.n = 0
  · obtain ⟨H4, m4, q4, u4⟩ := P.p.q.pass a.n hb
    have p4 := P.p.queue u4 q4
    have l5 := l.pass a.n
    obtain ⟨ve, He, mj, pe, hle, eo, en⟩ := p4.after l5
    refine ⟨He, _, _, _, _, _, by omega, pe, l5, fun K => ?_⟩
    rw [YJ]
    simp (disch := first | with_reducible rfl | assumption | omega | rfl | (simp only [go_sem]; first | done | omega)) only [go_sem, ↓reduceIte, reduceCtorEq, Nat.reduceEqDiff, Nat.reduceAdd, Nat.reduceSub, Nat.reduceMul, Nat.reduceDiv, Nat.reduceMod, Nat.reduceLeDiff, Nat.reduceLT, Nat.reduceBEq, Int.reduceEq, Int.reduceBEq, Int.reduceBNe, Int.reduceLT, Int.reduceLE, Int.reduceAdd, Int.reduceSub, Int.reduceNeg, Int.reduceToNat, Int.reducePow, Nat.reducePow, Int.reduceMul, Int.reduceDiv, ↓Yw, hlen, hlt, ix, cb, P.h1, P.g1, P.h2, Ya P.m, P.f3, w0, w1, w2, w3, w4, eq_true hw, ↓Ya m4, Ya m4, ↓Ya mj, Ya mj, eo, hle, en]
  · have m4 := q_QPass_bad bq bm bk A tries last now a.n H3 P.p.q.r hb
    obtain ⟨ve, He, mj, pe, hle, eo, en⟩ := P.p.after l
    refine ⟨He, A, last, now, es, cs, by omega, pe, l, fun K => ?_⟩
    rw [YJ]
    simp (disch := first | with_reducible rfl | assumption | omega | rfl | (simp only [go_sem]; first | done | omega)) only [go_sem, ↓reduceIte, reduceCtorEq, Nat.reduceEqDiff, Nat.reduceAdd, Nat.reduceSub, Nat.reduceMul, Nat.reduceDiv, Nat.reduceMod, Nat.reduceLeDiff, Nat.reduceLT, Nat.reduceBEq, Int.reduceEq, Int.reduceBEq, Int.reduceBNe, Int.reduceLT, Int.reduceLE, Int.reduceAdd, Int.reduceSub, Int.reduceNeg, Int.reduceToNat, Int.reducePow, Nat.reducePow, Int.reduceMul, Int.reduceDiv, ↓Yw, hlen, hlt, ix, cb, P.h1, P.g1, P.h2, Ya P.m, P.f3, w0, w1, w2, w3, w4, eq_true hw, ↓Ya m4, Ya m4, ↓Ya mj, Ya mj, eo, hle, en]
end
end Go.Proofs.YtmiinbhnfojnbaaDoor

set_option maxRecDepth 10000
namespace Go.Proofs.YtmiinbhnfojnbaaDoor
open Go Eng
attribute [local congr] YX YZ YR
section
variable {H0 H : AHeap} {bq bm bk bt bc : Nat} {A : List Jb} {tries last now : Int} {es : List (Int × Bool)} {cs : List (Int × Int)}
set_option maxHeartbeats 1000000 in
theorem step_take_bad (p : HS H0 H bq bm bk bt bc A tries last now es cs) (l : LI A tries last now es cs) (L : List Act) (hL : L.length ≤ 36) (w : Value) (hr : Rd EAct H0 w L) (i : Nat) (h : i < L.length) (a : Act) (ha : L[i] = a)
    (hw : a.what = 1) (hb : Q1 A now a.who a.n ≠ 0) : QF H0 H bq bm bk bt bc tries w i last := by
  have hlt : (i : Int) < (L.length : Int) := by omega
  have w0 : ¬ a.what = 0 := by omega
  have hrH := hr.still p.st
  have hlen := hrH.lenS
  obtain ⟨b1, o1, ix, l1, cb⟩ := Gr hrH h
  rw [ha] at cb
  have hi : i < 36 := by omega
  obtain ⟨vb, H1, H2, H3, P⟩ := p.pre a
  have m4 := q_QTake_bad bq bm bk A tries last now a.who a.n H3 P.p.q.ok P.p.q.r P.p.q.i hb
  generalize Q1 A now a.who a.n = e at hb m4
  obtain ⟨H4, hH4⟩ : ∃ H4, H3.push (.cells [.int .i64 0, .int .i64 0, .string (Eng.mk []), .int .i64 0, .int .i64 0, .int .i64 0, .int .i64 0] T.api_Job true) = H4 := ⟨_, rfl⟩
  obtain ⟨s4, n4, f4⟩ := YL hH4
  obtain ⟨H5, hH5⟩ : ∃ H5, H4.set H3.n (.cells [.int .i64 0, .int .i64 0, .string (Eng.mk []), .int .i64 0, .int .i64 0, .int .i64 0, .int .i64 0] T.api_Job true) = H5 := ⟨_, rfl⟩
  obtain ⟨s5, n5, f5, _⟩ := YG hH5
  have p5 := P.p.still (s4.then s5 fun b hb h => by omega)
  obtain ⟨ve, He, mj, pe, hle, eo, en⟩ := p5.after l
  refine ⟨He, A, last, now, es, cs, by omega, pe, l, fun K => ?_⟩
  rw [YJ]
  simp (disch := first | with_reducible rfl | assumption | omega | rfl | (simp only [go_sem]; first | done | omega)) only [go_sem, ↓reduceIte, reduceCtorEq, Nat.reduceEqDiff, Nat.reduceAdd, Nat.reduceSub, Nat.reduceMul, Nat.reduceDiv, Nat.reduceMod, Nat.reduceLeDiff, Nat.reduceLT, Nat.reduceBEq, Int.reduceEq, Int.reduceBEq, Int.reduceBNe, Int.reduceLT, Int.reduceLE, Int.reduceAdd, Int.reduceSub, Int.reduceNeg, Int.reduceToNat, Int.reducePow, Nat.reducePow, Int.reduceMul, Int.reduceDiv, ↓Yw, hlen, hlt, ix, cb, P.h1, P.g1, P.h2, Ya P.m, P.f3, w0, eq_true hw, ↓Ya m4, Ya m4, hH4, f4, hH5, hb, ↓Ya mj, Ya mj, eo, hle, en]
theorem QS.take (q : QS H bq bm bk A tries last now) (who n : Int) (j : Jb) (t : List Jb) (h : Q1 A now who n = 0) (hj : UX A = j :: t) :
    ∃ H', CC F.jobs_Queue_Take [.pointer (some ⟨bq, 0, none⟩), .int .i64 who, .int .i64 n] H = some (.tuple #[.agg ⟨(UA j now who n).l⟩, .int .i64 0], H') ∧ QS H' bq bm bk (Vz A (UA j now who n)) tries last now ∧ UpQ H bq bm bk H' := by
  obtain ⟨H1, m1, r1, i1, u1⟩ := q_QTake bq bm bk A tries last now who n j t H q.ok q.r q.i h hj
  exact ⟨H1, m1, ⟨q.ok.fr u1.fr, r1, i1⟩, u1⟩
set_option maxHeartbeats 2000000 in
theorem step_take (p : HS H0 H bq bm bk bt bc A tries last now es cs) (l : LI A tries last now es cs) (L : List Act) (hL : L.length ≤ 36) (w : Value) (hr : Rd EAct H0 w L) (i : Nat) (h : i < L.length) (a : Act) (ha : L[i] = a)
    (hw : a.what = 1) (hb : Q1 A now a.who a.n = 0) : QF H0 H bq bm bk bt bc tries w i last := by
  have hlt : (i : Int) < (L.length : Int) := by omega
  have w0 : ¬ a.what = 0 := by omega
  have hrH := hr.still p.st
  have hlen := hrH.lenS
  obtain ⟨b1, o1, ix, l1, cb⟩ := Gr hrH h
  rw [ha] at cb
  have hi : i < 36 := by omega
  have hAl := p.q.i.len
  obtain ⟨vb, H1, H2, H3, P⟩ := p.pre a
  have hE : ¬ (a.who < 1 ∨ 1000 < a.who ∨ a.n < 1 ∨ 1099511627776 - now < a.n) := fun c => by unfold Q1 at hb; rw [if_pos c] at hb; cases hb
  obtain ⟨j, t, hj⟩ : ∃ j t, UX A = j :: t := by
    unfold Q1 at hb
    rw [if_neg hE] at hb
    cases hq : UX A with
    | nil => rw [if_pos hq] at hb; cases hb
    | cons j t => exact ⟨j, t, rfl⟩
  obtain ⟨hjA, hjs, hall⟩ := first_wait p.q.i.a hj
  have hjw := p.q.i.w j hjA hjs
  have hjt := (p.q.i.a.ok j hjA).tries
  have hfj : fnd A j.id = some j := Z7 p.q.i.a.inc hjA
  obtain ⟨H4, m4, q4, u4⟩ := P.p.q.take a.who a.n j t hb hj
  have p4 := P.p.queue u4 q4
  have x1 : (UA j now a.who a.n).id = j.id := rfl
  have x2 : (UA j now a.who a.n).prio = j.prio := rfl
  have x3 : (UA j now a.who a.n).tries = j.tries + 1 := rfl
  have x4 : (UA j now a.who a.n).who = a.who := rfl
  have x5 : (UA j now a.who a.n).til = now + a.n := rfl
  generalize UA j now a.who a.n = x at m4 q4 p4 x1 x2 x3 x4 x5
  have m4 : CC F.jobs_Queue_Take [.pointer (some ⟨bq, 0, none⟩), .int .i64 a.who, .int .i64 a.n] H3 = some (.tuple #[.agg #[.int .i64 x.id, .int .i64 x.prio, .string x.body, .int .i64 x.state, .int .i64 x.tries, .int .i64 x.who, .int .i64 x.til], .int .i64 0], H4) := m4
  have n34 := u4.fr.n
  have hltn := P.lt
  have hnt := P.nt
  have hnc := P.nc
  have f4 : H4.f H.n = .cells [.int .i64 a.what, .int .i64 a.who, .int .i64 a.n, .string a.body] T.law_Act true := by
    rw [u4.fr.f P.lt fun h => by have := P.nq _ h; omega]; exact P.f3
  obtain ⟨H5, hH5⟩ : ∃ H5, H4.push (.cells [.int .i64 0, .int .i64 0, .string (Eng.mk []), .int .i64 0, .int .i64 0, .int .i64 0, .int .i64 0] T.api_Job true) = H5 := ⟨_, rfl⟩
  obtain ⟨s5, n5, g5⟩ := YL hH5
  obtain ⟨H6, hH6⟩ : ∃ H6, H5.set H4.n (.cells [.int .i64 x.id, .int .i64 x.prio, .string x.body, .int .i64 x.state, .int .i64 x.tries, .int .i64 x.who, .int .i64 x.til] T.api_Job true) = H6 := ⟨_, rfl⟩
  obtain ⟨s6, n6, g6, _⟩ := YG hH6
  have s46 : Yq H4 H6 := s5.then s6 fun b hb h => by omega
  have p6 := p4.still s46
  have lk6 := count_look p6.fc x.id
  rw [x1, l.ct j hjA, ← x1] at lk6
  obtain ⟨H7, hH7⟩ : ∃ H7, H6.set bc (mapI (Eng.putE cs x.id (j.tries + 1))) = H7 := ⟨_, rfl⟩
  obtain ⟨s7, n7, g7, _⟩ := YG hH7
  have pu := count_put p6.fc x.id (j.tries + 1)
  rw [hH7] at pu
  have p7 := p6.count hH7
  have f7 : H7.f H4.n = .cells [.int .i64 x.id, .int .i64 x.prio, .string x.body, .int .i64 x.state, .int .i64 x.tries, .int .i64 x.who, .int .i64 x.til] T.api_Job true := by rw [s7.f (by omega) (by omega)]; exact g6
  have f7a : H7.f H.n = .cells [.int .i64 a.what, .int .i64 a.who, .int .i64 a.n, .string a.body] T.law_Act true := by
    rw [s7.f (by omega) (by omega), s46.f (by omega) fun h => h]; exact f4
  have lt7 := there_look p7.ft x.id
  rw [(l.th x.id).2 (List.mem_map.2 ⟨j, hjA, x1.symm⟩)] at lt7
  have lc7 := count_look p7.fc x.id
  rw [Zf, if_pos rfl] at lc7
  have mn := q_QNow bq bm bk (Vz A x) tries last now H7 p7.q.r
  have l7 : LI (Vz A x) tries last now es (Eng.putE cs x.id (j.tries + 1)) := l.rep p.q.i.a (by rw [x1, hfj]; rfl) _ (by rw [Zf, if_pos rfl, x3]; rfl) (fun k hk => by rw [Zf, if_neg fun e => hk e.symm]) fun _ => by omega
  have ow7 := ((P.so.own.keep u4.fr fun c hc h => by
    have h1 := P.so.new c hc
    have h2 := P.nq c h
    have h3 := P.n2
    omega).keep s46 fun c hc h => h).keep s7 fun c hc h => by
    have h1 := P.so.new c hc
    have h3 := P.n2
    omega
  have lb : ∀ v0 v1 v5 v7 v8 v9 (K : K), Xq v0 v1 v5 v7 v8 v9 vb (.pointer (some ⟨H4.n, 0, none⟩)) (.int .i64 0) H7 (YI [0, 1, 5, 7, 8, 9] 3 K) = K .normal [(0, v0), (1, v1), (5, v5), (7, v7), (8, v8), (9, v9)] H7 := fun v0 v1 v5 v7 v8 v9 K =>
    l_before (Vr A) (by rw [Gk]; omega) x (fun b hb => by rw [x1, x2]; exact hall b (V1.1 hb)) v0 v1 v5 v7 v8 v9 vb H4.n H7 ow7.rd f7 (Vr A) 0 rfl K
  obtain ⟨ve, He, mj, pe, hle, eo, en⟩ := p7.after l7
  have hg : ¬ tries < j.tries + 1 := by omega
  have hu : ¬ x.til ≤ now := by omega
  refine ⟨He, _, _, _, _, _, by omega, pe, l7, fun K => ?_⟩
  rw [YJ]
  simp (disch := first | with_reducible rfl | assumption | omega | rfl | (simp only [go_sem]; first | done | omega)) only [go_sem, ↓reduceIte, reduceCtorEq, Nat.reduceEqDiff, Nat.reduceAdd, Nat.reduceSub, Nat.reduceMul, Nat.reduceDiv, Nat.reduceMod, Nat.reduceLeDiff, Nat.reduceLT, Nat.reduceBEq, Int.reduceEq, Int.reduceBEq, Int.reduceBNe, Int.reduceLT, Int.reduceLE, Int.reduceAdd, Int.reduceSub, Int.reduceNeg, Int.reduceToNat, Int.reducePow, Nat.reducePow, Int.reduceMul, Int.reduceDiv, ↓Yw, hlen, hlt, ix, cb, P.h1, P.g1, P.h2, Ya P.m, P.f3, w0, eq_true hw, ↓Ya m4, Ya m4, f4, hH5, g5, hH6, g6, lk6, pu, f7, f7a, lt7, lc7, Option.getD_some, hg, eq_true x4, hu, ↓Ya mn, Ya mn, lb, ↓Ya mj, Ya mj, eo, hle, en]
end
end Go.Proofs.YtmiinbhnfojnbaaDoor

set_option maxRecDepth 10000
namespace Go.Proofs.YtmiinbhnfojnbaaDoor
open Go Eng
attribute [local congr] YX YZ YR
theorem step_all {H0 H : AHeap} {bq bm bk bt bc : Nat} {A : List Jb} {tries last now : Int} {es : List (Int × Bool)} {cs : List (Int × Int)} (p : HS H0 H bq bm bk bt bc A tries last now es cs) (l : LI A tries last now es cs) (hl : last < 900) (L : List Act) (hL : L.length ≤ 36) (w : Value) (hr : Rd EAct H0 w L) (i : Nat) (h : i < L.length) (a : Act) (ha : L[i] = a) :
    QF H0 H bq bm bk bt bc tries w i last := by
  by_cases w0 : a.what = 0
  · exact step_put p l hl L hL w hr i h a ha w0
  by_cases w1 : a.what = 1
  · by_cases hb : Q1 A now a.who a.n = 0
    · exact step_take p l L hL w hr i h a ha w1 hb
    · exact step_take_bad p l L hL w hr i h a ha w1 hb
  by_cases w2 : a.what = 2
  · exact step_finish p l L hL w hr i h a ha w2
  by_cases w3 : a.what = 3
  · exact step_back p l L hL w hr i h a ha w3
  by_cases w4 : a.what = 4
  · exact step_revive p l L hL w hr i h a ha w4
  by_cases w5 : a.what = 5
  · exact step_pass p l L hL w hr i h a ha w5
  exact step_none p l L hL w hr i h a ha w0 w1 w2 w3 w4 w5
theorem l_holds (L : List Act) (hL : L.length ≤ 36) (w : Value) (H0 : AHeap) (hr : Rd EAct H0 w L) (bq bm bk bt bc : Nat) (tries : Int) : ∀ (t : List Act) (i : Nat) (H : AHeap) (A : List Jb) (last now : Int) (es : List (Int × Bool)) (cs : List (Int × Int)), L.drop i = t → last ≤ i →
    HS H0 H bq bm bk bt bc A tries last now es cs → LI A tries last now es cs → ∃ H', Ok H' ∧ ∀ K : K, Y4 (.int .i64 tries) w (.pointer (some ⟨bq, 0, none⟩)) (.map (some bt)) (.map (some bc)) (.int .i64 (i : Int)) H (YI [] 0 K) = K .normal [] H'
  | [], i, H, A, last, now, es, cs, hx, hli, p, l => by
    have h : L.length ≤ i := List.drop_eq_nil_iff.1 hx
    have hlt : ¬ (i : Int) < (L.length : Int) := by omega
    have hlen := (hr.still p.st).lenS
    refine ⟨H, p.q.ok, fun K => ?_⟩
    rw [YJ]
    simp (disch := first | with_reducible rfl | assumption | omega | rfl | (simp only [go_sem]; first | done | omega)) only [go_sem, ↓reduceIte, reduceCtorEq, Nat.reduceEqDiff, Nat.reduceAdd, Nat.reduceSub, Nat.reduceMul, Nat.reduceDiv, Nat.reduceMod, Nat.reduceLeDiff, Nat.reduceLT, Nat.reduceBEq, Int.reduceEq, Int.reduceBEq, Int.reduceBNe, Int.reduceLT, Int.reduceLE, Int.reduceAdd, Int.reduceSub, Int.reduceNeg, Int.reduceToNat, Int.reducePow, Nat.reducePow, Int.reduceMul, Int.reduceDiv, ↓Yw, hlen, hlt]
  | a :: t, i, H, A, last, now, es, cs, hx, hli, p, l => by
    obtain ⟨h, hxa, hx'⟩ := WB hx
    obtain ⟨H1, A', last', now', es', cs', hl1, p1, l1, e1⟩ := step_all p l (by omega) L hL w hr i h a hxa
    obtain ⟨H', ok', e'⟩ := l_holds L hL w H0 hr bq bm bk bt bc tries t (i + 1) H1 A' last' now' es' cs' hx' (by omega) p1 l1
    exact ⟨H', ok', fun K => (e1 K).trans (e' K)⟩
theorem q_JobsHolds (tries : Int) (L : List Act) (w : Value) (H : AHeap) (ok : Ok H) (hr : Rd EAct H w L) : ∃ H', UW Tryd.prog prims2 hints 1 F.law_JobsHolds [.int .i64 tries, w] H = some (.bool true, H') := by
  have ms : CC F.law_small [w, .int .i64 36] H = some (.bool (smallA L 36), H) := q_small L 36 (by decide) w H hr
  have kn := k_known H ok
  by_cases hb : tries < 1 ∨ 100 < tries
  · by_cases h1 : tries < 1
    · refine any_of (H1 := H) (Uf _ _ H ?_)
      simp (disch := first | with_reducible rfl | assumption | omega | rfl | (simp only [go_sem]; first | done | omega)) only [go_sem, ↓reduceIte, reduceCtorEq, Nat.reduceEqDiff, Nat.reduceAdd, Nat.reduceSub, Nat.reduceMul, Nat.reduceDiv, Nat.reduceMod, Nat.reduceLeDiff, Nat.reduceLT, Nat.reduceBEq, Int.reduceEq, Int.reduceBEq, Int.reduceBNe, Int.reduceLT, Int.reduceLE, Int.reduceAdd, Int.reduceSub, Int.reduceNeg, Int.reduceToNat, Int.reducePow, Nat.reducePow, Int.reduceMul, Int.reduceDiv, ↓WR, h1, ↓Ya kn, Ya kn]
    · have h2 : 100 < tries := by omega
      refine any_of (H1 := H) (Uf _ _ H ?_)
      simp (disch := first | with_reducible rfl | assumption | omega | rfl | (simp only [go_sem]; first | done | omega)) only [go_sem, ↓reduceIte, reduceCtorEq, Nat.reduceEqDiff, Nat.reduceAdd, Nat.reduceSub, Nat.reduceMul, Nat.reduceDiv, Nat.reduceMod, Nat.reduceLeDiff, Nat.reduceLT, Nat.reduceBEq, Int.reduceEq, Int.reduceBEq, Int.reduceBNe, Int.reduceLT, Int.reduceLE, Int.reduceAdd, Int.reduceSub, Int.reduceNeg, Int.reduceToNat, Int.reducePow, Nat.reducePow, Int.reduceMul, Int.reduceDiv, ↓WR, h1, h2, ↓Ya kn, Ya kn]
  have h1 : ¬ tries < 1 := by omega
  have h2 : ¬ 100 < tries := by omega
  cases hs : smallA L 36 with
  | false =>
    rw [hs] at ms
    refine any_of (H1 := H) (Uf _ _ H ?_)
    simp (disch := first | with_reducible rfl | assumption | omega | rfl | (simp only [go_sem]; first | done | omega)) only [go_sem, ↓reduceIte, reduceCtorEq, Nat.reduceEqDiff, Nat.reduceAdd, Nat.reduceSub, Nat.reduceMul, Nat.reduceDiv, Nat.reduceMod, Nat.reduceLeDiff, Nat.reduceLT, Nat.reduceBEq, Int.reduceEq, Int.reduceBEq, Int.reduceBNe, Int.reduceLT, Int.reduceLE, Int.reduceAdd, Int.reduceSub, Int.reduceNeg, Int.reduceToNat, Int.reducePow, Nat.reducePow, Int.reduceMul, Int.reduceDiv, ↓WR, h1, h2, ↓Ya ms, Ya ms, ↓Ya kn, Ya kn]
  | true =>
  rw [hs] at ms
  have hL : L.length ≤ 36 := by
    unfold smallA at hs
    simp only [Bool.and_eq_true, decide_eq_true_eq] at hs
    exact hs.2
  obtain ⟨bq, bm, bk, H1, m1, r1, i1, s1, new1⟩ := q_QNew tries H (by omega)
  have q1 : QS H1 bq bm bk [] tries 0 0 := ⟨ok.fr s1, r1, i1⟩
  have n1 := s1.n
  obtain ⟨H2, hH2⟩ : ∃ H2, H1.push (mapB []) = H2 := ⟨_, rfl⟩
  obtain ⟨s2, n2, f2⟩ := YL hH2
  obtain ⟨H3, hH3⟩ : ∃ H3, H2.push (mapI []) = H3 := ⟨_, rfl⟩
  obtain ⟨s3, n3, f3⟩ := YL hH3
  have e2 := there_make (H := H1)
  rw [hH2] at e2
  have e3 := count_make (H := H2)
  rw [hH3] at e3
  have q3 := q1.still (s2.trans s3)
  have hq : ∀ c, QB H3 bq bm bk c → QB H1 bq bm bk c := fun c h => h.still r1.mdl (s2.trans s3)
  have p3 : HS H H3 bq bm bk H1.n H2.n [] tries 0 0 [] [] := ⟨q3, by rw [s3.f (by omega) fun h => h]; exact f2, f3, by omega, by omega, fun h => by have := r1.blk (hq _ h); omega, fun h => by have := r1.blk (hq _ h); omega, by omega, (s1.trans s2).trans s3, fun c h => new1 c (hq c h), by omega, by omega⟩
  obtain ⟨H4, ok4, e4⟩ := l_holds L hL w H hr bq bm bk H1.n H2.n tries L 0 H3 [] 0 0 [] [] rfl (by decide) p3 (LI.nil tries)
  have e4 : ∀ K : K, Y4 (.int .i64 tries) w (.pointer (some ⟨bq, 0, none⟩)) (.map (some H1.n)) (.map (some H2.n)) (.int .i64 0) H3 (YI [] 0 K) = K .normal [] H4 := e4
  have kn4 := k_known H4 ok4
  refine any_of (H1 := H4) (Uf _ _ H ?_)
  simp (disch := first | with_reducible rfl | assumption | omega | rfl | (simp only [go_sem]; first | done | omega)) only [go_sem, ↓reduceIte, reduceCtorEq, Nat.reduceEqDiff, Nat.reduceAdd, Nat.reduceSub, Nat.reduceMul, Nat.reduceDiv, Nat.reduceMod, Nat.reduceLeDiff, Nat.reduceLT, Nat.reduceBEq, Int.reduceEq, Int.reduceBEq, Int.reduceBNe, Int.reduceLT, Int.reduceLE, Int.reduceAdd, Int.reduceSub, Int.reduceNeg, Int.reduceToNat, Int.reducePow, Nat.reducePow, Int.reduceMul, Int.reduceDiv, ↓WR, h1, h2, ↓Ya ms, Ya ms, ↓Ya m1, Ya m1, e2, e3, e4, ↓Ya kn4, Ya kn4]
theorem run_JobsHolds (W : World) (tries : Int) (_ : (Lit.int .i64 tries).wf = true) (w : Value) (L : List Act) (r : RdS EAct T.law_Act (WH W) w L) (_ : ∀ x, x ∈ L → -9223372036854775808 ≤ x.n ∧ x.n ≤ 9223372036854775807) (_ : L.length ≤ maxLen) :
    ∃ k H', UW Tryd.prog prims2 hints k F.law_JobsHolds [.int .i64 tries, w] (WH W) = some (.bool true, H') := by
  obtain ⟨H', h⟩ := q_JobsHolds tries L w (WH W) (fun _ => Nat.zero_lt_one) r.1
  exact ⟨1, H', h⟩
end Go.Proofs.YtmiinbhnfojnbaaDoor

namespace Go.Proofs.YtmiinbhnfojnbaaDoor.jobsHolds
open Go Go.ChangeShapes Go.WideShapes Go.ChangeAt Go.RowKit Go.Shelf Go.Lib
open Go.ChangeMaps (open_string shut_string)
theorem own : ownKnob Tryd.prog.godebug = none := by kernel_rfl
theorem laidOut : laidOutB Tryd.prog = true := by kernel_rfl
theorem glob (W : World) (hsh : W.ShapedOpen Tryd.prog) (hl : laidMetH Tryd.prog Rows.jobsHoldsRow.laid W) : Eng.Glob W.heap.size W := fun g hg => by
  rw [MakeChecks.laidMetH_plain _ _ _ (by kernel_rfl)] at hl
  simp only [Eng.globs, List.mem_cons, List.not_mem_nil, or_false] at hg
  rcases hg with rfl
  · obtain ⟨m, hm⟩ := Go.Proofs.cell_of_shapedOpen_int (g := 0) (zero := #[.int .i64 0]) (t := 3) hsh (of_decide_eq_true (by kernel_rfl)) (by kernel_rfl) rfl (by kernel_rfl) (by kernel_rfl) Tryd.underlying3
    obtain ⟨cs, e, fr, h1, _, _⟩ := Eng.cell_abs hm
    rw [Eng.cell_cellO] at hm
    exact ⟨(Array.getElem?_eq_some_iff.1 h1).1, m, hm⟩
set_option maxRecDepth 100000 in
theorem lifted (os : Os) (started : os.Started) (H : Type) (enc : TypeId × Value → H) :
    ReturnsInHanded {} Tryd.checked os 4 .any (fun w args => (Rows.jobsHoldsSpec.pre enc Tryd.prog Tryd.f4 [] false w args ∧ laidMetH Tryd.prog Rows.jobsHoldsRow.laid w) ∧ sizedMet enc Tryd.prog Tryd.f4 (OpenSpec.ofChange Rows.jobsHoldsSpec) false w args)
      (Rows.jobsHoldsSpec.post enc Tryd.prog Tryd.f4 false true false false) := by
  refine Eng.wrapX (C := Tryd.checked) (X := fun w _ => laidMetH Tryd.prog Rows.jobsHoldsRow.laid w) (fun _ _ _ hh h => h.of_heap hh) own started (by kernel_rfl) Tryd.func4
    (ChangeSpec.witness_shaped (enc := enc) (C := Tryd.checked) (os := os) (X := fun w _ => laidMetH Tryd.prog Rows.jobsHoldsRow.laid w) false (World.laidAll Tryd.prog os Rows.jobsHoldsRow.laid) #[.int .i64 0, .slice none 0 0] 8 (World.laidAll_os _ _ _)
      (World.shaped_of_ZipB (by kernel_rfl) (by kernel_rfl)) (by kernel_rfl) (by kernel_rfl) (by kernel_rfl)
      (by rw [MakeChecks.laidMetH_plain _ _ _ (by kernel_rfl)]; exact laidMet_laidAll _ (by kernel_rfl) (by kernel_rfl))) ?_
  intro W base args ds gs before hval0 hW hsz0 hsh hlx
  have hsz : (DataW.weightsEach Tryd.prog (Tryd.f4.params.toList ++ Rows.jobsHoldsSpec.plain.varTypes Tryd.prog) (ds ++ gs)).all (· ≤ reachBytes) = true := hsz0
  have hval : ∀ (j : Nat) t v, Tryd.f4.params[j]? = some t → args[j]? = some v → Value.okWide Tryd.prog W .any base t v := hval0
  have hW' := hW
  obtain ⟨p, q, hA0, hV, rfl, hfz, hnd⟩ := hW
  have hA : DataW.TrodAll enc Tryd.prog W 0 (fun _ => true) true Tryd.f4.params.toList args.toList ds p := hA0
  rw [Tryd.params4] at hA hval hsz
  obtain ⟨v0, vs0, d0, ds0, p0, q0, hargs, rfl, rfl, h0, r0⟩ := trodAll_cons hA
  obtain ⟨v1, vs1, d1, ds1, p1, q1, rfl, rfl, rfl, h1, r1⟩ := trodAll_cons r0
  obtain ⟨rfl, rfl, rfl⟩ := trodAll_nil r1
  obtain rfl : args = #[v0, v1] := by cases args; simp_all
  obtain ⟨rfl, rfl⟩ := trodVars_none hV
  obtain ⟨a0, rfl, rfl, rfl, w0⟩ := open_int Tryd.underlying3 (hval 0 3 v0 rfl rfl) h0
  have k1 := h1
  have lt1 : ∀ x ∈ p1, x.block < W.heap.size := by obtain ⟨m, hm⟩ := k1; exact DataW.trod_lt m _ _ _ hm
  obtain ⟨l1, rd1, all1, len1⟩ := Eng.open_rd2 (t := 35) (e' := 40) Tryd.underlying35 (by kernel_rfl) (fun hp cs n y h hl => decAct hp h hl) (hval 1 35 v1 rfl rfl) k1
  refine (Eng.law_calls2 (args := #[.int .i64 a0, v1]) prims2_ok mixed (glob W hsh hlx) (run_JobsHolds W a0 w0 (Eng.convA2 W.heap.size v1) l1 rd1 all1 len1)).mono fun e W' ⟨he, bel⟩ => ?_
  subst he
  exact ⟨_, rfl, _, _, _, [], _, [], hW', trodAll_mk1 (shut_bool Tryd.underlying4 _), (trodAll_cons_mk (shut_int Tryd.underlying3 w0) (trodAll_cons_mk (Below.trod laidOut (by kernel_rfl) (of_decide_eq_true (by kernel_rfl)) k1 bel lt1) trodAll_mk0)), rfl, bel.frame _, fun h => by cases h⟩
theorem over : Rows.jobsHoldsRow.holds Tryd.pinned (OpenSpec.ofChange Rows.jobsHoldsSpec) :=
  OpenClaim.holds_of_wide 4 Tryd.f4 rfl rfl rfl rfl rfl rfl rfl ⟨rfl, rfl, rfl, rfl, rfl⟩ rfl rfl rfl rfl rfl (by kernel_rfl) Tryd.func4 (by kernel_rfl)
    (of_decide_eq_true (by kernel_rfl)) (by unfold Func.isWrapper; first | (rw [if_pos (by decide +kernel)]; kernel_rfl) | (rw [if_neg (by decide +kernel)]; exact ⟨rfl, rfl⟩))
    (fun os started H enc _ => lifted os started H enc)
theorem proved : Rows.JobsHoldsCardSaid :=
  Claim7.holds_tied_plain_at .later [] [.data, .pinned] true (true, "bd39f77b9b94eb43ac845b1c392a0cb432a3a9eb164094a21eb9e07866ad1c13") true over (fun _ h => by cases h) (by kernel_rfl) (fun _ h => by cases h) jobsHolds_row_tie rfl ⟨rfl, rfl⟩ (by kernel_rfl) rfl
    (fun f fn hf hfn => by
      obtain rfl : f = 4 := Option.some.inj ((show Tryd.prog.funcNamed "ticketline/ticketlinelaw46.JobsHolds" = some 4 by kernel_rfl).symm.trans hf) |>.symm
      obtain rfl : fn = Tryd.f4 := (Option.some.inj (Tryd.func4.symm.trans hfn)).symm
      exact ⟨by kernel_rfl, fun j t ht => by
        rw [Tryd.params4] at ht
        have hm : t ∈ [3, 35] := by simpa using Array.mem_of_getElem? ht
        have hall : ([3, 35].all fun u => !Tryd.prog.wantsStandIn u) = true := by kernel_rfl
        exact (show Tryd.prog.wantsStandIn t = false by simpa using List.all_eq_true.1 hall t hm)⟩)
    (by kernel_rfl)
#print axioms proved
end Go.Proofs.YtmiinbhnfojnbaaDoor.jobsHolds
namespace Go.Proofs.YtmiinbhnfojnbaaDoor
theorem jobsHolds_card : Rows.JobsHoldsCardSaid := jobsHolds.proved
end Go.Proofs.YtmiinbhnfojnbaaDoor
