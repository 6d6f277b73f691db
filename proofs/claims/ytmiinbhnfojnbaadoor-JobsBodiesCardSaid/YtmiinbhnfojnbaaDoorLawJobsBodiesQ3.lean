/-
  10 texts in one (merge.py): Jk Jl Jm Jn Jo Jp ShJobsBodies DsJobsBodies Jr LawJobsBodies.
  Conditions: none. By an AI agent.
-/
import Derived.Test.YtmiinbhnfojnbaaDoorLawJobsBodiesQ2
import Derived.KernelRfl
import Derived.Test.YtmiinbhnfojnbaaDoorChecked
import Derived.Test.YtmiinbhnfojnbaaDoorRows
import Derived.Test.YtmiinbhnfojnbaaDoorCards
import Derived.Test.YtmiinbhnfojnbaaDoorTie
import Derived.WalkKit
import Derived.ProofKit
import Derived.OpenShut
import Derived.ShutString
import Derived.ChangeOld
import Derived.Below
import Derived.SizedLaws
import Derived.ChangeArms
import Derived.Carry
import Derived.Lay
import Derived.PinnedBridge
import Derived.LaidOnce
import Derived.SevenTiedAt
import Derived.HandedShaped
import Derived.Shelf.Vars
import Derived.Stop.LaidErr

/-
  Chapter 46: back, Back, Revive, Take: contracts.
  Conditions: none. By an AI agent.
-/
set_option maxRecDepth 10000
set_option linter.unusedSimpArgs false
set_option linter.unusedVariables false
namespace Go.Proofs.YtmiinbhnfojnbaaDoor
open Go Eng
attribute [local congr] bareK_congr' bothK_congr' quietK_congr'

theorem fnd_rep_ne {j : Jb} {k : Int} (h : k ≠ j.id) : ∀ (A : List Jb), fnd (repJ A j) k = fnd A k
  | [] => rfl
  | a :: A => by
    have ih := fnd_rep_ne h A
    unfold fnd repJ at ih ⊢
    rw [List.map_cons, List.find?_cons, List.find?_cons]
    by_cases h1 : a.id = j.id
    · rw [if_pos h1, decide_eq_false (fun e => h e.symm), decide_eq_false (fun e => h (by rw [← e, h1]))]
      exact ih
    · rw [if_neg h1]
      by_cases h2 : a.id = k
      · rw [decide_eq_true h2]
      · rw [decide_eq_false h2]
        exact ih
theorem setJ_rep {A : List Jb} {j : Jb} (h : (fnd A j.id).isSome = true) : setJ A j = repJ A j := by unfold setJ; rw [if_pos h]
theorem QI.rep {A : List Jb} {tries last now : Int} (i : QI A tries last now) {j : Jb} (hj : JOk j) (h : (fnd A j.id).isSome = true) (hw : j.state = 1 → j.tries < tries) : QI (repJ A j) tries last now :=
  ⟨i.a.rep hj h, i.t, i.l, i.n, fun a ha hs => by
    rcases (mem_repJ i.a.inc h).1 ha with rfl | h1
    · exact hw hs
    · exact i.w a h1.1 hs⟩
/-- set, of a job that is there. -/
theorem q_qrep (bq bm bk : Nat) (A : List Jb) (tries last now : Int) (j : Jb) (H : AHeap) (ok : Ok H) (r : QR H bq bm bk A tries last now) (i : QI A tries last now) (hj : JOk j) (h : (fnd A j.id).isSome = true) :
    ∃ H', CC F.jobs_Queue_set [.pointer (some ⟨bq, 0, none⟩), .agg #[.int .i64 j.id, .int .i64 j.prio, .string j.body, .int .i64 j.state, .int .i64 j.tries, .int .i64 j.who, .int .i64 j.til]] H = some (.int .i64 0, H') ∧ QR H' bq bm bk (repJ A j) tries last now ∧ UpQ H bq bm bk H' := by
  have := q_qset bq bm bk A tries last now j H ok r i.a (by have := i.len; omega) hj (by rw [setJ_rep h]; exact i.a.rep hj h)
  rw [setJ_rep h] at this
  exact this

/-! ### back -/
def backJ (tries : Int) (j : Jb) : Jb := ⟨j.id, j.prio, j.body, if tries ≤ j.tries then 3 else 1, j.tries, 0, 0⟩
theorem backJ_ok {tries : Int} {j : Jb} (h : JOk j) : JOk (backJ tries j) :=
  ⟨h.id, h.prio, h.body, by show 1 ≤ (if _ then (3 : Int) else 1) ∧ (if _ then (3 : Int) else 1) ≤ 3; split <;> omega, h.tries, by show (0 : Int) ≤ 0 ∧ (0 : Int) ≤ 1000; omega, by show (0 : Int) ≤ 0 ∧ (0 : Int) ≤ 1099511627776; omega, fun _ => rfl⟩
theorem backJ_w {tries : Int} {j : Jb} (h : (backJ tries j).state = 1) : (backJ tries j).tries < tries := by
  unfold backJ at h ⊢
  dsimp only at h ⊢
  split at h
  · cases h
  · omega
theorem Ok.set {H H1 : AHeap} {b : Nat} {k : Blk} (ok : Ok H) (h : H.set b k = H1) : Ok H1 := ok.fr (set_blk h).1
theorem q_Qback (bq bm bk : Nat) (A : List Jb) (tries last now : Int) (j : Jb) (H : AHeap) (ok : Ok H) (r : QR H bq bm bk A tries last now) (i : QI A tries last now) (hj : JOk j) (h : (fnd A j.id).isSome = true) :
    ∃ H', CC F.jobs_Queue_back [.pointer (some ⟨bq, 0, none⟩), .agg #[.int .i64 j.id, .int .i64 j.prio, .string j.body, .int .i64 j.state, .int .i64 j.tries, .int .i64 j.who, .int .i64 j.til]] H = some (.int .i64 0, H') ∧ QR H' bq bm bk (repJ A (backJ tries j)) tries last now ∧ QI (repJ A (backJ tries j)) tries last now ∧ UpQ H bq bm bk H' := by
  obtain ⟨H1, hH1⟩ : ∃ H1, H.push (.cells [.int .i64 j.id, .int .i64 j.prio, .string j.body, .int .i64 j.state, .int .i64 j.tries, .int .i64 j.who, .int .i64 j.til] T.api_Job true) = H1 := ⟨_, rfl⟩
  obtain ⟨s1, n1, f1⟩ := push_blk hH1
  obtain ⟨H2, hH2⟩ : ∃ H2, H1.set H.n (.cells [.int .i64 j.id, .int .i64 j.prio, .string j.body, .int .i64 1, .int .i64 j.tries, .int .i64 j.who, .int .i64 j.til] T.api_Job true) = H2 := ⟨_, rfl⟩
  obtain ⟨s2, n2, f2, _⟩ := set_blk hH2
  obtain ⟨H3, hH3⟩ : ∃ H3, H2.set H.n (.cells [.int .i64 j.id, .int .i64 j.prio, .string j.body, .int .i64 1, .int .i64 j.tries, .int .i64 0, .int .i64 j.til] T.api_Job true) = H3 := ⟨_, rfl⟩
  obtain ⟨s3, n3, f3, _⟩ := set_blk hH3
  obtain ⟨H4, hH4⟩ : ∃ H4, H3.set H.n (.cells [.int .i64 j.id, .int .i64 j.prio, .string j.body, .int .i64 1, .int .i64 j.tries, .int .i64 0, .int .i64 0] T.api_Job true) = H4 := ⟨_, rfl⟩
  obtain ⟨s4, n4, f4, _⟩ := set_blk hH4
  have st4 : Still H H4 := ((s1.then s2 fun b hb h => by omega).then s3 fun b hb h => by omega).then s4 fun b hb h => by omega
  have r4 := r.still st4
  have fq := r4.f
  unfold qcells at fq
  have hid : (fnd A (backJ tries j).id).isSome = true := h
  have hi : QI (repJ A (backJ tries j)) tries last now := i.rep (backJ_ok hj) hid backJ_w
  by_cases c : tries ≤ j.tries
  · obtain ⟨H5, hH5⟩ : ∃ H5, H4.set H.n (.cells [.int .i64 j.id, .int .i64 j.prio, .string j.body, .int .i64 3, .int .i64 j.tries, .int .i64 0, .int .i64 0] T.api_Job true) = H5 := ⟨_, rfl⟩
    obtain ⟨s5, n5, f5, _⟩ := set_blk hH5
    have st5 : Still H H5 := st4.then s5 fun b hb h => by omega
    have r5 := r.still st5
    obtain ⟨H6, m6, r6, u6⟩ := q_qrep bq bm bk A tries last now (backJ tries j) H5 (ok.fr st5) r5 i (backJ_ok hj) hid
    have e : backJ tries j = ⟨j.id, j.prio, j.body, 3, j.tries, 0, 0⟩ := by unfold backJ; rw [if_pos c]
    have m6 : CC F.jobs_Queue_set [.pointer (some ⟨bq, 0, none⟩), .agg #[.int .i64 j.id, .int .i64 j.prio, .string j.body, .int .i64 3, .int .i64 j.tries, .int .i64 0, .int .i64 0]] H5 = some (.int .i64 0, H6) := by rw [e] at m6; exact m6
    obtain ⟨H7, t1, t2, t3⟩ := QR.tidy (v := .int .i64 0) ok r r6 (UpQ.pre r st5 u6)
    refine ⟨H7, (d_jobs_Queue_back _ _ H (r := (.int .i64 0, H6)) ?_).trans (congrArg some t1), t2, hi, t3⟩
    simp (disch := first | with_reducible rfl | assumption | omega | rfl | (simp only [go_sem]; first | done | omega)) only [go_sem, ↓reduceIte, reduceCtorEq, Nat.reduceEqDiff, Nat.reduceAdd, Nat.reduceSub, Nat.reduceMul, Nat.reduceDiv, Nat.reduceMod, Nat.reduceLeDiff, Nat.reduceLT, Nat.reduceBEq, Int.reduceEq, Int.reduceBEq, Int.reduceBNe, Int.reduceLT, Int.reduceLE, Int.reduceAdd, Int.reduceSub, Int.reduceNeg, Int.reduceToNat, Int.reducePow, Nat.reducePow, Int.reduceMul, Int.reduceDiv, ↓s_jobs_Queue_back, hH1, f1, hH2, f2, hH3, f3, hH4, f4, fq, c, hH5, f5, ↓enterK_eq m6, enterK_eq m6]
  · obtain ⟨H6, m6, r6, u6⟩ := q_qrep bq bm bk A tries last now (backJ tries j) H4 (ok.fr st4) r4 i (backJ_ok hj) hid
    have e : backJ tries j = ⟨j.id, j.prio, j.body, 1, j.tries, 0, 0⟩ := by unfold backJ; rw [if_neg c]
    have m6 : CC F.jobs_Queue_set [.pointer (some ⟨bq, 0, none⟩), .agg #[.int .i64 j.id, .int .i64 j.prio, .string j.body, .int .i64 1, .int .i64 j.tries, .int .i64 0, .int .i64 0]] H4 = some (.int .i64 0, H6) := by rw [e] at m6; exact m6
    obtain ⟨H7, t1, t2, t3⟩ := QR.tidy (v := .int .i64 0) ok r r6 (UpQ.pre r st4 u6)
    refine ⟨H7, (d_jobs_Queue_back _ _ H (r := (.int .i64 0, H6)) ?_).trans (congrArg some t1), t2, hi, t3⟩
    simp (disch := first | with_reducible rfl | assumption | omega | rfl | (simp only [go_sem]; first | done | omega)) only [go_sem, ↓reduceIte, reduceCtorEq, Nat.reduceEqDiff, Nat.reduceAdd, Nat.reduceSub, Nat.reduceMul, Nat.reduceDiv, Nat.reduceMod, Nat.reduceLeDiff, Nat.reduceLT, Nat.reduceBEq, Int.reduceEq, Int.reduceBEq, Int.reduceBNe, Int.reduceLT, Int.reduceLE, Int.reduceAdd, Int.reduceSub, Int.reduceNeg, Int.reduceToNat, Int.reducePow, Nat.reducePow, Int.reduceMul, Int.reduceDiv, ↓s_jobs_Queue_back, hH1, f1, hH2, f2, hH3, f3, hH4, f4, fq, c, ↓enterK_eq m6, enterK_eq m6]
theorem q_QBack (bq bm bk : Nat) (A : List Jb) (tries last now who id : Int) (j : Jb) (H : AHeap) (ok : Ok H) (r : QR H bq bm bk A tries last now) (i : QI A tries last now) (h : takenE A who id = 0) (hf : fnd A id = some j) :
    ∃ H', CC F.jobs_Queue_Back [.pointer (some ⟨bq, 0, none⟩), .int .i64 who, .int .i64 id] H = some (.int .i64 0, H') ∧ QR H' bq bm bk (repJ A (backJ tries j)) tries last now ∧ QI (repJ A (backJ tries j)) tries last now ∧ UpQ H bq bm bk H' := by
  obtain ⟨j', hf', hs, hw, h1, h2⟩ := takenE_ok h
  rw [hf] at hf'
  cases hf'
  obtain ⟨hj, hid⟩ := fnd_some hf
  have m1 := q_Qtaken bq bm bk A tries last now who id j H ok r i hf hs hw h1 h2
  obtain ⟨H1, hH1⟩ : ∃ H1, H.push (.cells [.int .i64 0, .int .i64 0, .string (mk []), .int .i64 0, .int .i64 0, .int .i64 0, .int .i64 0] T.api_Job true) = H1 := ⟨_, rfl⟩
  obtain ⟨s1, n1, f1⟩ := push_blk hH1
  obtain ⟨H2, hH2⟩ : ∃ H2, H1.set H.n (.cells [.int .i64 j.id, .int .i64 j.prio, .string j.body, .int .i64 j.state, .int .i64 j.tries, .int .i64 j.who, .int .i64 j.til] T.api_Job true) = H2 := ⟨_, rfl⟩
  obtain ⟨s2, n2, f2, _⟩ := set_blk hH2
  have st : Still H H2 := s1.then s2 fun b hb h => by omega
  obtain ⟨H3, m3, r3, i3, u3⟩ := q_Qback bq bm bk A tries last now j H2 (ok.fr st) (r.still st) i (i.a.ok j hj) (by rw [hid, hf]; rfl)
  obtain ⟨H4, t1, t2, t3⟩ := QR.tidy (v := .int .i64 0) ok r r3 (UpQ.pre r st u3)
  refine ⟨H4, (d_jobs_Queue_Back _ _ _ H (r := (.int .i64 0, H3)) ?_).trans (congrArg some t1), t2, i3, t3⟩
  simp (disch := first | with_reducible rfl | assumption | omega | rfl | (simp only [go_sem]; first | done | omega)) only [go_sem, ↓reduceIte, reduceCtorEq, Nat.reduceEqDiff, Nat.reduceAdd, Nat.reduceSub, Nat.reduceMul, Nat.reduceDiv, Nat.reduceMod, Nat.reduceLeDiff, Nat.reduceLT, Nat.reduceBEq, Int.reduceEq, Int.reduceBEq, Int.reduceBNe, Int.reduceLT, Int.reduceLE, Int.reduceAdd, Int.reduceSub, Int.reduceNeg, Int.reduceToNat, Int.reducePow, Nat.reducePow, Int.reduceMul, Int.reduceDiv, ↓s_jobs_Queue_Back, ↓enterK_eq m1, enterK_eq m1, hH1, f1, hH2, f2, ↓enterK_eq m3, enterK_eq m3]

/-! ### Revive -/
def reviveJ (j : Jb) : Jb := ⟨j.id, j.prio, j.body, 1, 0, j.who, j.til⟩
theorem reviveJ_ok {j : Jb} (h : JOk j) (hs : j.state = 3) : JOk (reviveJ j) :=
  ⟨h.id, h.prio, h.body, by show (1 : Int) ≤ 1 ∧ (1 : Int) ≤ 3; omega, by show (0 : Int) ≤ 0 ∧ (0 : Int) ≤ 100; omega, h.who, h.til, fun _ => h.free (by rw [hs]; decide)⟩
theorem q_QRevive (bq bm bk : Nat) (A : List Jb) (tries last now id : Int) (j : Jb) (H : AHeap) (ok : Ok H) (r : QR H bq bm bk A tries last now) (i : QI A tries last now) (hf : fnd A id = some j) (c : j.state = 3) :
    ∃ H', CC F.jobs_Queue_Revive [.pointer (some ⟨bq, 0, none⟩), .int .i64 id] H = some (.int .i64 0, H') ∧ QR H' bq bm bk (repJ A (reviveJ j)) tries last now ∧ QI (repJ A (reviveJ j)) tries last now ∧ UpQ H bq bm bk H' := by
  have m1 := q_QGet bq bm bk A tries last now id H ok r i
  rw [hf] at m1
  have m1 : CC F.jobs_Queue_Get [.pointer (some ⟨bq, 0, none⟩), .int .i64 id] H = some (.tuple #[.agg #[.int .i64 j.id, .int .i64 j.prio, .string j.body, .int .i64 j.state, .int .i64 j.tries, .int .i64 j.who, .int .i64 j.til], .int .i64 0], H) := m1
  obtain ⟨hj, hid⟩ := fnd_some hf
  have hok := i.a.ok j hj
  obtain ⟨H1, hH1⟩ : ∃ H1, H.push (.cells [.int .i64 0, .int .i64 0, .string (mk []), .int .i64 0, .int .i64 0, .int .i64 0, .int .i64 0] T.api_Job true) = H1 := ⟨_, rfl⟩
  obtain ⟨s1, n1, f1⟩ := push_blk hH1
  obtain ⟨H2, hH2⟩ : ∃ H2, H1.set H.n (.cells [.int .i64 j.id, .int .i64 j.prio, .string j.body, .int .i64 j.state, .int .i64 j.tries, .int .i64 j.who, .int .i64 j.til] T.api_Job true) = H2 := ⟨_, rfl⟩
  obtain ⟨s2, n2, f2, _⟩ := set_blk hH2
  obtain ⟨H3, hH3⟩ : ∃ H3, H2.set H.n (.cells [.int .i64 j.id, .int .i64 j.prio, .string j.body, .int .i64 1, .int .i64 j.tries, .int .i64 j.who, .int .i64 j.til] T.api_Job true) = H3 := ⟨_, rfl⟩
  obtain ⟨s3, n3, f3, _⟩ := set_blk hH3
  obtain ⟨H4, hH4⟩ : ∃ H4, H3.set H.n (.cells [.int .i64 j.id, .int .i64 j.prio, .string j.body, .int .i64 1, .int .i64 0, .int .i64 j.who, .int .i64 j.til] T.api_Job true) = H4 := ⟨_, rfl⟩
  obtain ⟨s4, n4, f4, _⟩ := set_blk hH4
  have st4 : Still H H4 := ((s1.then s2 fun b hb h => by omega).then s3 fun b hb h => by omega).then s4 fun b hb h => by omega
  have hsome : (fnd A (reviveJ j).id).isSome = true := by show (fnd A j.id).isSome = true; rw [hid, hf]; rfl
  obtain ⟨H6, m6, r6, u6⟩ := q_qrep bq bm bk A tries last now (reviveJ j) H4 (ok.fr st4) (r.still st4) i (reviveJ_ok hok c) hsome
  have m6 : CC F.jobs_Queue_set [.pointer (some ⟨bq, 0, none⟩), .agg #[.int .i64 j.id, .int .i64 j.prio, .string j.body, .int .i64 1, .int .i64 0, .int .i64 j.who, .int .i64 j.til]] H4 = some (.int .i64 0, H6) := m6
  obtain ⟨H7, t1, t2, t3⟩ := QR.tidy (v := .int .i64 0) ok r r6 (UpQ.pre r st4 u6)
  refine ⟨H7, (d_jobs_Queue_Revive _ _ H (r := (.int .i64 0, H6)) ?_).trans (congrArg some t1), t2, i.rep (reviveJ_ok hok c) hsome (fun _ => by show (0 : Int) < tries; have := i.t; omega), t3⟩
  simp (disch := first | with_reducible rfl | assumption | omega | rfl | (simp only [go_sem]; first | done | omega)) only [go_sem, ↓reduceIte, reduceCtorEq, Nat.reduceEqDiff, Nat.reduceAdd, Nat.reduceSub, Nat.reduceMul, Nat.reduceDiv, Nat.reduceMod, Nat.reduceLeDiff, Nat.reduceLT, Nat.reduceBEq, Int.reduceEq, Int.reduceBEq, Int.reduceBNe, Int.reduceLT, Int.reduceLE, Int.reduceAdd, Int.reduceSub, Int.reduceNeg, Int.reduceToNat, Int.reducePow, Nat.reducePow, Int.reduceMul, Int.reduceDiv, ↓s_jobs_Queue_Revive, ↓enterK_eq m1, enterK_eq m1, hH1, f1, hH2, f2, eq_true c, hH3, f3, hH4, f4, ↓enterK_eq m6, enterK_eq m6]
end Go.Proofs.YtmiinbhnfojnbaaDoor

/-
  Chapter 46: Take, Pass: contracts.
  Conditions: none. By an AI agent.
-/
set_option maxRecDepth 10000
set_option linter.unusedSimpArgs false
set_option linter.unusedVariables false
namespace Go.Proofs.YtmiinbhnfojnbaaDoor
open Go Eng
attribute [local congr] bareK_congr' bothK_congr' quietK_congr'

/-! ### Take -/
/-- The jobs that wait, in order. -/
def waitJ (A : List Jb) : List Jb := (srtJ A).filter fun j => decide (j.state = 1)
def takeE (A : List Jb) (now who n : Int) : Int := if who < 1 ∨ 1000 < who ∨ n < 1 ∨ 1099511627776 - now < n then 2 else if waitJ A = [] then 9 else 0
def takeJ (j : Jb) (now who n : Int) : Jb := ⟨j.id, j.prio, j.body, 2, j.tries + 1, who, now + n⟩
theorem wait_mem {A : List Jb} {j : Jb} {t : List Jb} (h : waitJ A = j :: t) : j ∈ A ∧ j.state = 1 := by
  have : j ∈ waitJ A := by rw [h]; simp
  unfold waitJ at this
  rw [List.mem_filter, mem_srt] at this
  simpa using this
theorem rd_job {H : AHeap} {v : Value} {l : List Jb} (r : Rd EJb H v l) {i : Nat} (hi : i < l.length) : ∃ b o, ixS 7 v (.int .i64 (i : Int)) = some (.pointer (some ⟨b, o, none⟩)) ∧ b < H.n ∧ cutB (H.f b) o 7 = some l[i].l ∧ blockOf v = some b := by
  obtain ⟨b, o, h1, h2, h3, h4⟩ := r.ix (q := .i64) hi
  exact ⟨b, o, h1, h2, h3, h4⟩
set_option maxHeartbeats 1000000 in
theorem q_QTake_bad (bq bm bk : Nat) (A : List Jb) (tries last now who n : Int) (H : AHeap) (ok : Ok H) (r : QR H bq bm bk A tries last now) (i : QI A tries last now) (h : takeE A now who n ≠ 0) :
    CC F.jobs_Queue_Take [.pointer (some ⟨bq, 0, none⟩), .int .i64 who, .int .i64 n] H = some (.tuple #[.agg #[.int .i64 0, .int .i64 0, .string (mk []), .int .i64 0, .int .i64 0, .int .i64 0, .int .i64 0], .int .i64 (takeE A now who n)], H) := by
  have hnow := i.n
  obtain ⟨H1, hH1⟩ : ∃ H1, H.push (.cells [.int .i64 0, .int .i64 0, .string (mk []), .int .i64 0, .int .i64 0, .int .i64 0, .int .i64 0] T.api_Job true) = H1 := ⟨_, rfl⟩
  obtain ⟨s1, n1, f1⟩ := push_blk hH1
  have r1 := r.still s1
  have m0 := r1.q_none
  have fq := r1.f
  unfold qcells at fq
  obtain ⟨H2, hH2⟩ : ∃ H2, H1.set H.n (.cells [.int .i64 0, .int .i64 0, .string (mk []), .int .i64 0, .int .i64 0, .int .i64 0, .int .i64 0] T.api_Job true) = H2 := ⟨_, rfl⟩
  obtain ⟨s2, n2, f2, _⟩ := set_blk hH2
  unfold takeE at h ⊢
  by_cases h1 : who < 1
  · rw [if_pos (.inl h1)]
    refine pure_of (H' := H2) ?_ (d_jobs_Queue_Take _ _ _ H) rfl (s1.then s2 fun b hb h => by omega)
    simp (disch := first | with_reducible rfl | assumption | omega | rfl | (simp only [go_sem]; first | done | omega)) only [go_sem, ↓reduceIte, reduceCtorEq, Nat.reduceEqDiff, Nat.reduceAdd, Nat.reduceSub, Nat.reduceMul, Nat.reduceDiv, Nat.reduceMod, Nat.reduceLeDiff, Nat.reduceLT, Nat.reduceBEq, Int.reduceEq, Int.reduceBEq, Int.reduceBNe, Int.reduceLT, Int.reduceLE, Int.reduceAdd, Int.reduceSub, Int.reduceNeg, Int.reduceToNat, Int.reducePow, Nat.reducePow, Int.reduceMul, Int.reduceDiv, ↓s_jobs_Queue_Take, hH1, ↓enterK_eq m0, enterK_eq m0, h1, f1, hH2, f2, xload_job]
  by_cases h2 : 1000 < who
  · rw [if_pos (.inr (.inl h2))]
    refine pure_of (H' := H2) ?_ (d_jobs_Queue_Take _ _ _ H) rfl (s1.then s2 fun b hb h => by omega)
    simp (disch := first | with_reducible rfl | assumption | omega | rfl | (simp only [go_sem]; first | done | omega)) only [go_sem, ↓reduceIte, reduceCtorEq, Nat.reduceEqDiff, Nat.reduceAdd, Nat.reduceSub, Nat.reduceMul, Nat.reduceDiv, Nat.reduceMod, Nat.reduceLeDiff, Nat.reduceLT, Nat.reduceBEq, Int.reduceEq, Int.reduceBEq, Int.reduceBNe, Int.reduceLT, Int.reduceLE, Int.reduceAdd, Int.reduceSub, Int.reduceNeg, Int.reduceToNat, Int.reducePow, Nat.reducePow, Int.reduceMul, Int.reduceDiv, ↓s_jobs_Queue_Take, hH1, ↓enterK_eq m0, enterK_eq m0, h1, h2, f1, hH2, f2, xload_job]
  by_cases h3 : n < 1
  · rw [if_pos (.inr (.inr (.inl h3)))]
    refine pure_of (H' := H2) ?_ (d_jobs_Queue_Take _ _ _ H) rfl (s1.then s2 fun b hb h => by omega)
    simp (disch := first | with_reducible rfl | assumption | omega | rfl | (simp only [go_sem]; first | done | omega)) only [go_sem, ↓reduceIte, reduceCtorEq, Nat.reduceEqDiff, Nat.reduceAdd, Nat.reduceSub, Nat.reduceMul, Nat.reduceDiv, Nat.reduceMod, Nat.reduceLeDiff, Nat.reduceLT, Nat.reduceBEq, Int.reduceEq, Int.reduceBEq, Int.reduceBNe, Int.reduceLT, Int.reduceLE, Int.reduceAdd, Int.reduceSub, Int.reduceNeg, Int.reduceToNat, Int.reducePow, Nat.reducePow, Int.reduceMul, Int.reduceDiv, ↓s_jobs_Queue_Take, hH1, ↓enterK_eq m0, enterK_eq m0, h1, h2, h3, f1, hH2, f2, xload_job]
  by_cases h4 : 1099511627776 - now < n
  · rw [if_pos (.inr (.inr (.inr h4)))]
    refine pure_of (H' := H2) ?_ (d_jobs_Queue_Take _ _ _ H) rfl (s1.then s2 fun b hb h => by omega)
    simp (disch := first | with_reducible rfl | assumption | omega | rfl | (simp only [go_sem]; first | done | omega)) only [go_sem, ↓reduceIte, reduceCtorEq, Nat.reduceEqDiff, Nat.reduceAdd, Nat.reduceSub, Nat.reduceMul, Nat.reduceDiv, Nat.reduceMod, Nat.reduceLeDiff, Nat.reduceLT, Nat.reduceBEq, Int.reduceEq, Int.reduceBEq, Int.reduceBNe, Int.reduceLT, Int.reduceLE, Int.reduceAdd, Int.reduceSub, Int.reduceNeg, Int.reduceToNat, Int.reducePow, Nat.reducePow, Int.reduceMul, Int.reduceDiv, ↓s_jobs_Queue_Take, hH1, ↓enterK_eq m0, enterK_eq m0, h1, h2, h3, fq, h4, f1, hH2, f2, xload_job]
  rw [if_neg (by omega)] at h ⊢
  by_cases h5 : waitJ A = []
  · rw [if_pos h5]
    have mn := q_jnum 1 H1 (by decide) (by decide)
    obtain ⟨H3, hH3⟩ : ∃ H3, H1.push (.cells [.int .i64 1, .int .u64 1, .int .i64 0, .string (mk []), .bool false] T.api_Cell true) = H3 := ⟨_, rfl⟩
    obtain ⟨s3, n3, f3⟩ := push_blk hH3
    have hc : Rd ECl H3 (.slice (some ⟨H1.n, 0, none⟩) 1 2) [numC 1] := (newE (E := ECl) (l := [numC 1]) (e := T.api_Cell) (by omega) f3).1
    obtain ⟨v, H4, m4, so⟩ := q_inS bq bm bk A tries last now 1 (by decide) _ H3 (ok.fr (s1.trans s3)) (r1.still s3) i hc
    have hlen := so.own.rd.lenS
    rw [show ((srtJ A).filter fun j => decide (j.state = 1)) = waitJ A from rfl, h5] at hlen
    have hlen : lenS v = some (.int .i64 0) := hlen
    have g4 : H4.f H.n = .cells [.int .i64 0, .int .i64 0, .string (mk []), .int .i64 0, .int .i64 0, .int .i64 0, .int .i64 0] T.api_Job true := by rw [(s3.trans so.still).f (by omega) fun h => h]; exact f1
    obtain ⟨H5, hH5⟩ : ∃ H5, H4.set H.n (.cells [.int .i64 0, .int .i64 0, .string (mk []), .int .i64 0, .int .i64 0, .int .i64 0, .int .i64 0] T.api_Job true) = H5 := ⟨_, rfl⟩
    obtain ⟨s5, n5, f5, _⟩ := set_blk hH5
    refine pure_of (H' := H5) ?_ (d_jobs_Queue_Take _ _ _ H) rfl (((s1.trans s3).trans so.still).then s5 fun b hb h => by omega)
    simp (disch := first | with_reducible rfl | assumption | omega | rfl | (simp only [go_sem]; first | done | omega)) only [go_sem, ↓reduceIte, reduceCtorEq, Nat.reduceEqDiff, Nat.reduceAdd, Nat.reduceSub, Nat.reduceMul, Nat.reduceDiv, Nat.reduceMod, Nat.reduceLeDiff, Nat.reduceLT, Nat.reduceBEq, Int.reduceEq, Int.reduceBEq, Int.reduceBNe, Int.reduceLT, Int.reduceLE, Int.reduceAdd, Int.reduceSub, Int.reduceNeg, Int.reduceToNat, Int.reducePow, Nat.reducePow, Int.reduceMul, Int.reduceDiv, ↓s_jobs_Queue_Take, hH1, ↓enterK_eq m0, enterK_eq m0, h1, h2, h3, fq, h4, ↓enterK_eq mn, enterK_eq mn, hH3, ↓enterK_eq m4, enterK_eq m4, hlen, g4, hH5, f5, xload_job]
  · rw [if_neg h5] at h
    exact absurd rfl h
theorem takeJ_ok {j : Jb} (h : JOk j) {now who n : Int} (hw : 1 ≤ who ∧ who ≤ 1000) (hn : 1 ≤ n) (h0 : 0 ≤ now) (hb : now + n ≤ 1099511627776) (ht : j.tries < 100) : JOk (takeJ j now who n) :=
  ⟨h.id, h.prio, h.body, by show (1 : Int) ≤ 2 ∧ (2 : Int) ≤ 3; omega, by show 0 ≤ j.tries + 1 ∧ j.tries + 1 ≤ 100; have := h.tries; omega, by show 0 ≤ who ∧ who ≤ 1000; omega, by show 0 ≤ now + n ∧ now + n ≤ 1099511627776; omega, fun h => absurd rfl h⟩
set_option maxHeartbeats 2000000 in
theorem q_QTake (bq bm bk : Nat) (A : List Jb) (tries last now who n : Int) (j : Jb) (t : List Jb) (H : AHeap) (ok : Ok H) (r : QR H bq bm bk A tries last now) (i : QI A tries last now) (h : takeE A now who n = 0) (hj : waitJ A = j :: t) :
    ∃ H', CC F.jobs_Queue_Take [.pointer (some ⟨bq, 0, none⟩), .int .i64 who, .int .i64 n] H = some (.tuple #[.agg ⟨(takeJ j now who n).l⟩, .int .i64 0], H') ∧ QR H' bq bm bk (repJ A (takeJ j now who n)) tries last now ∧ QI (repJ A (takeJ j now who n)) tries last now ∧ UpQ H bq bm bk H' := by
  have hnow := i.n
  have ht := i.t
  have hb : ¬ (who < 1 ∨ 1000 < who ∨ n < 1 ∨ 1099511627776 - now < n) := fun c => by unfold takeE at h; rw [if_pos c] at h; cases h
  have h1 : ¬ who < 1 := by omega
  have h2 : ¬ 1000 < who := by omega
  have h3 : ¬ n < 1 := by omega
  have h4 : ¬ 1099511627776 - now < n := by omega
  obtain ⟨hA, hs⟩ := wait_mem hj
  have hok := i.a.ok j hA
  have hw := i.w j hA hs
  have htr := hok.tries
  have hok' : JOk (takeJ j now who n) := takeJ_ok hok (by omega) (by omega) hnow.1 (by omega) (by omega)
  have hsome : (fnd A (takeJ j now who n).id).isSome = true := by show (fnd A j.id).isSome = true; rw [fnd_mem i.a.inc hA]; rfl
  obtain ⟨H1, hH1⟩ : ∃ H1, H.push (.cells [.int .i64 0, .int .i64 0, .string (mk []), .int .i64 0, .int .i64 0, .int .i64 0, .int .i64 0] T.api_Job true) = H1 := ⟨_, rfl⟩
  obtain ⟨s1, n1, f1⟩ := push_blk hH1
  have r1 := r.still s1
  have m0 := r1.q_none
  have fq := r1.f
  unfold qcells at fq
  have mn := q_jnum 1 H1 (by decide) (by decide)
  obtain ⟨H3, hH3⟩ : ∃ H3, H1.push (.cells [.int .i64 1, .int .u64 1, .int .i64 0, .string (mk []), .bool false] T.api_Cell true) = H3 := ⟨_, rfl⟩
  obtain ⟨s3, n3, f3⟩ := push_blk hH3
  have hc : Rd ECl H3 (.slice (some ⟨H1.n, 0, none⟩) 1 2) [numC 1] := (newE (E := ECl) (l := [numC 1]) (e := T.api_Cell) (by omega) f3).1
  obtain ⟨v, H4, m4, so⟩ := q_inS bq bm bk A tries last now 1 (by decide) _ H3 (ok.fr (s1.trans s3)) (r1.still s3) i hc
  have so : SinceE EJb T.api_Job H3 H4 v (j :: t) := by rw [← hj]; exact so
  have hlen : lenS v = some (.int .i64 ((t.length : Int) + 1)) := so.own.rd.lenS
  have hne : ¬ (t.length : Int) + 1 = 0 := by omega
  obtain ⟨b, o, ix, lb, cb, _⟩ := rd_job so.own.rd (i := 0) (by simp)
  have ix : ixS 7 v (.int .i64 0) = some (.pointer (some ⟨b, o, none⟩)) := ix
  have cb : cutB (H4.f b) o 7 = some [.int .i64 j.id, .int .i64 j.prio, .string j.body, .int .i64 j.state, .int .i64 j.tries, .int .i64 j.who, .int .i64 j.til] := cb
  obtain ⟨H5, hH5⟩ : ∃ H5, H4.push (.cells [.int .i64 0, .int .i64 0, .string (mk []), .int .i64 0, .int .i64 0, .int .i64 0, .int .i64 0] T.api_Job true) = H5 := ⟨_, rfl⟩
  obtain ⟨s5, n5, f5⟩ := push_blk hH5
  obtain ⟨H6, hH6⟩ : ∃ H6, H5.set H4.n (.cells [.int .i64 j.id, .int .i64 j.prio, .string j.body, .int .i64 j.state, .int .i64 j.tries, .int .i64 j.who, .int .i64 j.til] T.api_Job true) = H6 := ⟨_, rfl⟩
  obtain ⟨s6, n6, f6, _⟩ := set_blk hH6
  obtain ⟨H7, hH7⟩ : ∃ H7, H6.set H4.n (.cells [.int .i64 j.id, .int .i64 j.prio, .string j.body, .int .i64 2, .int .i64 j.tries, .int .i64 j.who, .int .i64 j.til] T.api_Job true) = H7 := ⟨_, rfl⟩
  obtain ⟨s7, n7, f7, _⟩ := set_blk hH7
  obtain ⟨H8, hH8⟩ : ∃ H8, H7.set H4.n (.cells [.int .i64 j.id, .int .i64 j.prio, .string j.body, .int .i64 2, .int .i64 j.tries, .int .i64 who, .int .i64 j.til] T.api_Job true) = H8 := ⟨_, rfl⟩
  obtain ⟨s8, n8, f8, _⟩ := set_blk hH8
  obtain ⟨H9, hH9⟩ : ∃ H9, H8.set H4.n (.cells [.int .i64 j.id, .int .i64 j.prio, .string j.body, .int .i64 2, .int .i64 j.tries, .int .i64 who, .int .i64 (now + n)] T.api_Job true) = H9 := ⟨_, rfl⟩
  obtain ⟨s9, n9, f9, _⟩ := set_blk hH9
  obtain ⟨Ha, hHa⟩ : ∃ Ha, H9.set H4.n (.cells [.int .i64 j.id, .int .i64 j.prio, .string j.body, .int .i64 2, .int .i64 (j.tries + 1), .int .i64 who, .int .i64 (now + n)] T.api_Job true) = Ha := ⟨_, rfl⟩
  obtain ⟨sa, na, fa, _⟩ := set_blk hHa
  have n4 := so.still.n
  have st4 : Still H H4 := (s1.trans s3).trans so.still
  have st6 : Still H H6 := (st4.trans s5).then s6 fun b hb h => by omega
  have st : Still H Ha := (((st6.then s7 fun b hb h => by omega).then s8 fun b hb h => by omega).then s9 fun b hb h => by omega).then sa fun b hb h => by omega
  have fq6 : H6.f bq = .cells [.pointer (some ⟨bm, 0, none⟩), .map (some bk), .int .i64 tries, .int .i64 last, .int .i64 now] T.jobs_Queue true := (r.still st6).f
  have hbq := r.lt
  have ck1 : okV (some true) (some bq) H6 H7 H6 H6 = true := okV_some (.inr (s7.ver (by omega) (by omega))) (.inr (Nat.le_refl _))
  have ck2 : okV (some true) (some bq) H7 H8 H6 H6 = true := okV_some (.inr (s8.ver (by omega) (by omega))) (.inr (Nat.le_refl _))
  obtain ⟨Hb, mb, rb, ub⟩ := q_qrep bq bm bk A tries last now (takeJ j now who n) Ha (ok.fr st) (r.still st) i hok' hsome
  have mb : CC F.jobs_Queue_set [.pointer (some ⟨bq, 0, none⟩), .agg #[.int .i64 j.id, .int .i64 j.prio, .string j.body, .int .i64 2, .int .i64 (j.tries + 1), .int .i64 who, .int .i64 (now + n)]] Ha = some (.int .i64 0, Hb) := mb
  have hQ : ∀ c, H.n ≤ c → ¬ QB Ha bq bm bk c := fun c hc h => by have := r.blk (h.still r.mdl st); omega
  have z0 : Ha.f H.n = .cells [.int .i64 0, .int .i64 0, .string (mk []), .int .i64 0, .int .i64 0, .int .i64 0, .int .i64 0] T.api_Job true := by
    rw [sa.f (by omega) (by omega), s9.f (by omega) (by omega), s8.f (by omega) (by omega), s7.f (by omega) (by omega), s6.f (by omega) (by omega), (s3.trans (so.still.trans s5)).f (by omega) fun h => h]; exact f1
  have zb : Hb.f H.n = .cells [.int .i64 0, .int .i64 0, .string (mk []), .int .i64 0, .int .i64 0, .int .i64 0, .int .i64 0] T.api_Job true := by rw [ub.fr.f (by omega) (hQ _ (by omega))]; exact z0
  have fb : Hb.f H4.n = .cells [.int .i64 j.id, .int .i64 j.prio, .string j.body, .int .i64 2, .int .i64 (j.tries + 1), .int .i64 who, .int .i64 (now + n)] T.api_Job true := by rw [ub.fr.f (by omega) (hQ _ st4.n)]; exact fa
  obtain ⟨Hc, hHc⟩ : ∃ Hc, Hb.set H.n (.cells [.int .i64 j.id, .int .i64 j.prio, .string j.body, .int .i64 2, .int .i64 (j.tries + 1), .int .i64 who, .int .i64 (now + n)] T.api_Job true) = Hc := ⟨_, rfl⟩
  obtain ⟨sc, nc, fc, _⟩ := set_blk hHc
  have ub' := UpQ.pre r st ub
  have hQb : ¬ QB Hb bq bm bk H.n := fun h => by
    rcases h with h | h | h
    · omega
    · have := r.klt; omega
    · rcases ub'.mb _ h with h | h
      · have := r.mdl.blk h; omega
      · rcases ub.mb _ ‹_› with h' | h'
        · exact hQ _ (Nat.le_refl _) (.inr (.inr h'))
        · have := st.n; omega
  obtain ⟨uc, rc⟩ := ub'.post rb sc fun c hc => ⟨by omega, by rw [hc]; exact hQb⟩
  obtain ⟨Hd, t1, t2, t3⟩ := QR.tidy (v := .tuple #[.agg ⟨(takeJ j now who n).l⟩, .int .i64 0]) ok r rc uc
  refine ⟨Hd, (d_jobs_Queue_Take _ _ _ H (r := (.tuple #[.agg ⟨(takeJ j now who n).l⟩, .int .i64 0], Hc)) ?_).trans (congrArg some t1), t2, i.rep hok' hsome (fun h => by cases h), t3⟩
  show s_jobs_Queue_Take _ _ _ _ _ _ _ _ _ _ = some (.tuple #[.agg #[.int .i64 j.id, .int .i64 j.prio, .string j.body, .int .i64 2, .int .i64 (j.tries + 1), .int .i64 who, .int .i64 (now + n)], .int .i64 0], Hc)
  simp (disch := first | with_reducible rfl | assumption | omega | rfl | (simp only [go_sem]; first | done | omega)) only [go_sem, ↓reduceIte, reduceCtorEq, Nat.reduceEqDiff, Nat.reduceAdd, Nat.reduceSub, Nat.reduceMul, Nat.reduceDiv, Nat.reduceMod, Nat.reduceLeDiff, Nat.reduceLT, Nat.reduceBEq, Int.reduceEq, Int.reduceBEq, Int.reduceBNe, Int.reduceLT, Int.reduceLE, Int.reduceAdd, Int.reduceSub, Int.reduceNeg, Int.reduceToNat, Int.reducePow, Nat.reducePow, Int.reduceMul, Int.reduceDiv, ↓s_jobs_Queue_Take, hH1, ↓enterK_eq m0, enterK_eq m0, h1, h2, h3, fq, h4, ↓enterK_eq mn, enterK_eq mn, hH3, ↓enterK_eq m4, enterK_eq m4, hlen, hne, ix, cb, hH5, f5, hH6, f6, fq6, hH7, f7, hH8, f8, hH9, f9, hHa, fa, ck1, ck2, ↓enterK_eq mb, enterK_eq mb, zb, fb, hHc, fc, xload_job]
end Go.Proofs.YtmiinbhnfojnbaaDoor

/-
  Chapter 46: Pass: contract.
  Conditions: none. By an AI agent.
-/
set_option maxRecDepth 10000
set_option linter.unusedSimpArgs false
set_option linter.unusedVariables false
namespace Go.Proofs.YtmiinbhnfojnbaaDoor
open Go Eng
attribute [local congr] bareK_congr' bothK_congr' quietK_congr'

def dueJ (tick : Int) (a : Jb) : Bool := decide (a.til ≤ tick)
def passJ (A : List Jb) (tries tick : Int) : List Jb := A.map fun a => if a.state = 2 ∧ a.til ≤ tick then backJ tries a else a
theorem while_filter {tick : Int} : ∀ {l : List Jb}, l.Pairwise (fun a b => a.til ≤ b.til) → l.takeWhile (dueJ tick) = l.filter (dueJ tick)
  | [], _ => rfl
  | a :: l, h => by
    obtain ⟨h1, h2⟩ := List.pairwise_cons.1 h
    by_cases hd : dueJ tick a = true
    · rw [List.takeWhile_cons_of_pos hd, List.filter_cons_of_pos hd, while_filter h2]
    · rw [List.takeWhile_cons_of_neg hd, List.filter_cons_of_neg hd]
      symm
      rw [List.filter_eq_nil_iff]
      intro b hb
      have := h1 b hb
      unfold dueJ at hd ⊢
      simp only [decide_eq_true_eq] at hd ⊢
      omega
theorem fold_rep (tries : Int) : ∀ (F A : List Jb), A.Pairwise (fun a b => a.id < b.id) → (∀ j ∈ F, fnd A j.id = some j) → F.Pairwise (fun a b => a.id ≠ b.id) →
    F.foldl (fun A j => repJ A (backJ tries j)) A = A.map fun a => if a ∈ F then backJ tries a else a
  | [], A, _, _, _ => by simp
  | j :: F, A, hA, hF, hp => by
    obtain ⟨h1, h2⟩ := List.pairwise_cons.1 hp
    obtain ⟨hj, _⟩ := fnd_some (hF j (by simp))
    rw [List.foldl_cons, fold_rep tries F (repJ A (backJ tries j)) (inc_ids (ids_rep A _) hA) (fun x hx => by rw [fnd_rep_ne (j := backJ tries j) (fun e => h1 x hx e.symm)]; exact hF x (by simp [hx])) h2]
    unfold repJ
    rw [List.map_map]
    apply List.map_congr_left
    intro a ha
    simp only [Function.comp]
    by_cases e : a.id = j.id
    · have e' : a = j := inc_uniq hA ha hj e
      subst e'
      have hn : backJ tries a ∉ F := fun h => h1 _ h rfl
      rw [if_pos (show a.id = (backJ tries a).id from rfl), if_neg hn, if_pos (by simp)]
    · rw [if_neg (show ¬ a.id = (backJ tries j).id from e)]
      have : a ∈ j :: F ↔ a ∈ F := by
        rw [List.mem_cons]
        exact ⟨fun h => h.resolve_left fun h => e (by rw [h]), .inr⟩
      by_cases hm : a ∈ F
      · rw [if_pos hm, if_pos (this.2 hm)]
      · rw [if_neg hm, if_neg (fun h => hm (this.1 h))]

set_option maxHeartbeats 1000000 in
theorem l_pass (bq bm bk : Nat) (tries last tick : Int) (L : List Jb) (hL : L.length ≤ 1000) (hok : ∀ j ∈ L, JOk j) (v : Value) (H0 : AHeap) (hv : Rd EJb H0 v L) (hoff : ∀ b, blockOf v = some b → ¬ QB H0 bq bm bk b) :
    ∀ (t : List Jb) (i : Nat) (H : AHeap) (A : List Jb), L.drop i = t → Ok H → QR H bq bm bk A tries last tick → QI A tries last tick → UpQ H0 bq bm bk H → (∀ j ∈ t, fnd A j.id = some j) → t.Pairwise (fun a b => a.id ≠ b.id) →
    ∃ H', QR H' bq bm bk ((t.takeWhile (dueJ tick)).foldl (fun A j => repJ A (backJ tries j)) A) tries last tick ∧ QI ((t.takeWhile (dueJ tick)).foldl (fun A j => repJ A (backJ tries j)) A) tries last tick ∧ UpQ H0 bq bm bk H' ∧
      ∀ K : K, l_jobs_Queue_Pass_0 (.pointer (some ⟨bq, 0, none⟩)) (.int .i64 tick) v (.int .i64 (L.length : Int)) (.int .i64 (i : Int)) H (blkK [] 1 K) = K .normal [] H'
  | [], i, H, A, hx, ok, r, qi, u, hf, hp => by
    have h : L.length ≤ i := List.drop_eq_nil_iff.1 hx
    have hlt : ¬ (i : Int) < (L.length : Int) := by omega
    refine ⟨H, r, qi, u, fun K => ?_⟩
    rw [r_jobs_Queue_Pass_0]
    simp (disch := first | with_reducible rfl | assumption | omega | rfl | (simp only [go_sem]; first | done | omega)) only [go_sem, ↓reduceIte, reduceCtorEq, Nat.reduceEqDiff, Nat.reduceAdd, Nat.reduceSub, Nat.reduceMul, Nat.reduceDiv, Nat.reduceMod, Nat.reduceLeDiff, Nat.reduceLT, Nat.reduceBEq, Int.reduceEq, Int.reduceBEq, Int.reduceBNe, Int.reduceLT, Int.reduceLE, Int.reduceAdd, Int.reduceSub, Int.reduceNeg, Int.reduceToNat, Int.reducePow, Nat.reducePow, Int.reduceMul, Int.reduceDiv, ↓s_jobs_Queue_Pass_b0, hlt]
  | j :: t, i, H, A, hx, ok, r, qi, u, hf, hp => by
    obtain ⟨h, hxa, hx'⟩ := drop_cons hx
    have hlt : (i : Int) < (L.length : Int) := by omega
    obtain ⟨hp1, hp2⟩ := List.pairwise_cons.1 hp
    have hjf := hf j (by simp)
    have hj := hok j (by rw [← hxa]; exact List.getElem_mem h)
    have hv1 : Rd EJb H v L := hv.keep u.fr hoff
    obtain ⟨b, o, ix, lb, cb, _⟩ := rd_job hv1 h
    rw [hxa] at cb
    have cb : cutB (H.f b) o 7 = some [.int .i64 j.id, .int .i64 j.prio, .string j.body, .int .i64 j.state, .int .i64 j.tries, .int .i64 j.who, .int .i64 j.til] := cb
    obtain ⟨H1, hH1⟩ : ∃ H1, H.push (.cells [.int .i64 0, .int .i64 0, .string (mk []), .int .i64 0, .int .i64 0, .int .i64 0, .int .i64 0] T.api_Job true) = H1 := ⟨_, rfl⟩
    obtain ⟨s1, n1, f1⟩ := push_blk hH1
    obtain ⟨H2, hH2⟩ : ∃ H2, H1.set H.n (.cells [.int .i64 j.id, .int .i64 j.prio, .string j.body, .int .i64 j.state, .int .i64 j.tries, .int .i64 j.who, .int .i64 j.til] T.api_Job true) = H2 := ⟨_, rfl⟩
    obtain ⟨s2, n2, f2, _⟩ := set_blk hH2
    have st : Still H H2 := s1.then s2 fun b hb h => by omega
    have e1 : ((i : Int) + 1) = ((i + 1 : Nat) : Int) := by omega
    by_cases c : tick < j.til
    · have hd : ¬ dueJ tick j = true := by unfold dueJ; simp only [decide_eq_true_eq]; omega
      refine ⟨H2, ?_, ?_, u.trans (UpQ.of_still r st), fun K => ?_⟩
      · rw [List.takeWhile_cons_of_neg hd]; exact r.still st
      · rw [List.takeWhile_cons_of_neg hd]; exact qi
      · rw [r_jobs_Queue_Pass_0]
        simp (disch := first | with_reducible rfl | assumption | omega | rfl | (simp only [go_sem]; first | done | omega)) only [go_sem, ↓reduceIte, reduceCtorEq, Nat.reduceEqDiff, Nat.reduceAdd, Nat.reduceSub, Nat.reduceMul, Nat.reduceDiv, Nat.reduceMod, Nat.reduceLeDiff, Nat.reduceLT, Nat.reduceBEq, Int.reduceEq, Int.reduceBEq, Int.reduceBNe, Int.reduceLT, Int.reduceLE, Int.reduceAdd, Int.reduceSub, Int.reduceNeg, Int.reduceToNat, Int.reducePow, Nat.reducePow, Int.reduceMul, Int.reduceDiv, ↓s_jobs_Queue_Pass_b0, hlt, ix, cb, hH1, f1, hH2, f2, c]
    · have hd : dueJ tick j = true := by unfold dueJ; simp only [decide_eq_true_eq]; omega
      obtain ⟨H3, m3, r3, i3, u3⟩ := q_Qback bq bm bk A tries last tick j H2 (ok.fr st) (r.still st) qi hj (by rw [hjf]; rfl)
      have u' := u.trans (UpQ.pre r st u3)
      obtain ⟨H', r', i', u'', e'⟩ := l_pass bq bm bk tries last tick L hL hok v H0 hv hoff t (i + 1) H3 (repJ A (backJ tries j)) hx' ((ok.fr st).fr u3.fr) r3 i3 u' (fun x hx => by
        rw [fnd_rep_ne (j := backJ tries j) (fun e => hp1 x hx e.symm)]; exact hf x (by simp [hx])) hp2
      refine ⟨H', by rw [List.takeWhile_cons_of_pos hd]; exact r', by rw [List.takeWhile_cons_of_pos hd]; exact i', u'', fun K => ?_⟩
      have e' := e' K
      rw [← e1] at e'
      rw [r_jobs_Queue_Pass_0]
      simp (disch := first | with_reducible rfl | assumption | omega | rfl | (simp only [go_sem]; first | done | omega)) only [go_sem, ↓reduceIte, reduceCtorEq, Nat.reduceEqDiff, Nat.reduceAdd, Nat.reduceSub, Nat.reduceMul, Nat.reduceDiv, Nat.reduceMod, Nat.reduceLeDiff, Nat.reduceLT, Nat.reduceBEq, Int.reduceEq, Int.reduceBEq, Int.reduceBNe, Int.reduceLT, Int.reduceLE, Int.reduceAdd, Int.reduceSub, Int.reduceNeg, Int.reduceToNat, Int.reducePow, Nat.reducePow, Int.reduceMul, Int.reduceDiv, ↓s_jobs_Queue_Pass_b0, hlt, ix, cb, hH1, f1, hH2, f2, c, ↓enterK_eq m3, enterK_eq m3]
      exact e'

def passE (now tick : Int) : Int := if tick < 0 ∨ 1099511627776 < tick then 2 else if tick < now then 14 else 0
theorem q_QPass_bad (bq bm bk : Nat) (A : List Jb) (tries last now tick : Int) (H : AHeap) (r : QR H bq bm bk A tries last now) (h : passE now tick ≠ 0) :
    CC F.jobs_Queue_Pass [.pointer (some ⟨bq, 0, none⟩), .int .i64 tick] H = some (.int .i64 (passE now tick), H) := by
  have m0 := r.q_none
  have fq := r.f
  unfold qcells at fq
  unfold passE at h ⊢
  by_cases h1 : tick < 0
  · rw [if_pos (.inl h1)]
    apply pure_of _ (d_jobs_Queue_Pass _ _ H) rfl
    rotate_left 2
    · simp (disch := first | with_reducible rfl | assumption | omega | rfl | (simp only [go_sem]; first | done | omega)) only [go_sem, ↓reduceIte, reduceCtorEq, Nat.reduceEqDiff, Nat.reduceAdd, Nat.reduceSub, Nat.reduceMul, Nat.reduceDiv, Nat.reduceMod, Nat.reduceLeDiff, Nat.reduceLT, Nat.reduceBEq, Int.reduceEq, Int.reduceBEq, Int.reduceBNe, Int.reduceLT, Int.reduceLE, Int.reduceAdd, Int.reduceSub, Int.reduceNeg, Int.reduceToNat, Int.reducePow, Nat.reducePow, Int.reduceMul, Int.reduceDiv, ↓s_jobs_Queue_Pass, ↓enterK_eq m0, enterK_eq m0, h1]
      rfl
    · (repeat (first | exact Fr.refl _ | refine Fr.push ?_ _ | refine Fr.set ?_ _ _ (by intro h; first | omega | (simp only [go_sem] at h; omega))))
  by_cases h2 : 1099511627776 < tick
  · rw [if_pos (.inr h2)]
    apply pure_of _ (d_jobs_Queue_Pass _ _ H) rfl
    rotate_left 2
    · simp (disch := first | with_reducible rfl | assumption | omega | rfl | (simp only [go_sem]; first | done | omega)) only [go_sem, ↓reduceIte, reduceCtorEq, Nat.reduceEqDiff, Nat.reduceAdd, Nat.reduceSub, Nat.reduceMul, Nat.reduceDiv, Nat.reduceMod, Nat.reduceLeDiff, Nat.reduceLT, Nat.reduceBEq, Int.reduceEq, Int.reduceBEq, Int.reduceBNe, Int.reduceLT, Int.reduceLE, Int.reduceAdd, Int.reduceSub, Int.reduceNeg, Int.reduceToNat, Int.reducePow, Nat.reducePow, Int.reduceMul, Int.reduceDiv, ↓s_jobs_Queue_Pass, ↓enterK_eq m0, enterK_eq m0, h1, h2]
      rfl
    · (repeat (first | exact Fr.refl _ | refine Fr.push ?_ _ | refine Fr.set ?_ _ _ (by intro h; first | omega | (simp only [go_sem] at h; omega))))
  rw [if_neg (by omega)] at h ⊢
  by_cases h3 : tick < now
  · rw [if_pos h3]
    apply pure_of _ (d_jobs_Queue_Pass _ _ H) rfl
    rotate_left 2
    · simp (disch := first | with_reducible rfl | assumption | omega | rfl | (simp only [go_sem]; first | done | omega)) only [go_sem, ↓reduceIte, reduceCtorEq, Nat.reduceEqDiff, Nat.reduceAdd, Nat.reduceSub, Nat.reduceMul, Nat.reduceDiv, Nat.reduceMod, Nat.reduceLeDiff, Nat.reduceLT, Nat.reduceBEq, Int.reduceEq, Int.reduceBEq, Int.reduceBNe, Int.reduceLT, Int.reduceLE, Int.reduceAdd, Int.reduceSub, Int.reduceNeg, Int.reduceToNat, Int.reducePow, Nat.reducePow, Int.reduceMul, Int.reduceDiv, ↓s_jobs_Queue_Pass, ↓enterK_eq m0, enterK_eq m0, h1, h2, fq, h3]
      rfl
    · (repeat (first | exact Fr.refl _ | refine Fr.push ?_ _ | refine Fr.set ?_ _ _ (by intro h; first | omega | (simp only [go_sem] at h; omega))))
  · rw [if_neg h3] at h
    exact absurd rfl h
theorem pass_fold {A : List Jb} {n : Int} (h : AOk A n) (tries tick : Int) :
    (((srtJ A).filter fun j => decide (j.state = 2)).takeWhile (dueJ tick)).foldl (fun A j => repJ A (backJ tries j)) A = passJ A tries tick := by
  have hs := h.sj
  have hF : ((srtJ A).filter fun j => decide (j.state = 2)).Pairwise fun a b => befJ a b = true := hs.sublist List.filter_sublist
  have hst : ∀ a ∈ (srtJ A).filter fun j => decide (j.state = 2), a.state = 2 := fun a ha => by simpa using (List.mem_filter.1 ha).2
  have hm : ∀ a ∈ (srtJ A).filter fun j => decide (j.state = 2), a ∈ A := fun a ha => mem_srt.1 (List.mem_filter.1 ha).1
  have ht : ((srtJ A).filter fun j => decide (j.state = 2)).Pairwise fun a b => a.til ≤ b.til := by
    refine hF.imp_of_mem fun {a b} ha hb hab => ?_
    have h1 := hst a ha
    have h2 := hst b hb
    rw [befJ_lex] at hab
    unfold ordJ at hab
    rw [if_neg (by omega), if_pos h1, if_neg (by omega), if_pos h2] at hab
    omega
  have hn : ((srtJ A).filter fun j => decide (j.state = 2)).Pairwise fun a b => a.id ≠ b.id := by
    refine hF.imp_of_mem fun {a b} ha hb hab e => ?_
    have := inc_uniq h.inc (hm a ha) (hm b hb) e
    rw [this, befJ_irr] at hab
    cases hab
  rw [while_filter ht, fold_rep tries _ A h.inc (fun j hj => fnd_mem h.inc (hm j (List.mem_filter.1 hj).1)) (hn.sublist List.filter_sublist)]
  unfold passJ
  apply List.map_congr_left
  intro a ha
  have : a ∈ ((srtJ A).filter fun j => decide (j.state = 2)).filter (dueJ tick) ↔ a.state = 2 ∧ a.til ≤ tick := by
    rw [List.mem_filter, List.mem_filter, mem_srt]
    unfold dueJ
    simp only [decide_eq_true_eq]
    exact ⟨fun h => ⟨h.1.2, h.2⟩, fun h => ⟨⟨ha, h.1⟩, h.2⟩⟩
  by_cases hc : a.state = 2 ∧ a.til ≤ tick
  · rw [if_pos hc, if_pos (this.2 hc)]
  · rw [if_neg hc, if_neg fun h => hc (this.1 h)]
set_option maxHeartbeats 1000000 in
theorem q_QPass (bq bm bk : Nat) (A : List Jb) (tries last now tick : Int) (H : AHeap) (ok : Ok H) (r : QR H bq bm bk A tries last now) (i : QI A tries last now) (h : passE now tick = 0) :
    ∃ H', CC F.jobs_Queue_Pass [.pointer (some ⟨bq, 0, none⟩), .int .i64 tick] H = some (.int .i64 0, H') ∧ QR H' bq bm bk (passJ A tries tick) tries last tick ∧ QI (passJ A tries tick) tries last tick ∧ UpQ H bq bm bk H' := by
  have hb : ¬ (tick < 0 ∨ 1099511627776 < tick) := fun c => by unfold passE at h; rw [if_pos c] at h; cases h
  have h3 : ¬ tick < now := fun c => by unfold passE at h; rw [if_neg hb, if_pos c] at h; cases h
  have h1 : ¬ tick < 0 := by omega
  have h2 : ¬ 1099511627776 < tick := by omega
  have m0 := r.q_none
  have fq := r.f
  unfold qcells at fq
  obtain ⟨H1, hH1⟩ : ∃ H1, H.set bq (.cells [.pointer (some ⟨bm, 0, none⟩), .map (some bk), .int .i64 tries, .int .i64 last, .int .i64 tick] T.jobs_Queue true) = H1 := ⟨_, rfl⟩
  obtain ⟨r1, u1⟩ := r.setq hH1
  obtain ⟨_, _, f1, v1⟩ := set_blk hH1
  have ok1 := ok.fr u1.fr
  have i1 : QI A tries last tick := ⟨i.a, i.t, i.l, by omega, i.w⟩
  have mn := q_jnum 2 H1 (by decide) (by decide)
  obtain ⟨H2, hH2⟩ : ∃ H2, H1.push (.cells [.int .i64 1, .int .u64 2, .int .i64 0, .string (mk []), .bool false] T.api_Cell true) = H2 := ⟨_, rfl⟩
  obtain ⟨s2, n2, f2⟩ := push_blk hH2
  have hc : Rd ECl H2 (.slice (some ⟨H1.n, 0, none⟩) 1 2) [numC 2] := (newE (E := ECl) (l := [numC 2]) (e := T.api_Cell) (by omega) f2).1
  obtain ⟨v, H3, m3, so⟩ := q_inS bq bm bk A tries last tick 2 (by decide) _ H2 (ok1.fr s2) (r1.still s2) i1 hc
  have st := s2.trans so.still
  have r3 := r1.still st
  have hlen := so.own.rd.lenS
  have hm : ∀ a ∈ (srtJ A).filter fun j => decide (j.state = 2), a ∈ A := fun a ha => mem_srt.1 (List.mem_filter.1 ha).1
  have hll : ((srtJ A).filter fun j => decide (j.state = 2)).length ≤ 1000 := by
    have := List.length_filter_le (fun j : Jb => decide (j.state = 2)) (srtJ A)
    rw [len_srt] at this
    have := i.len
    omega
  have hn : ((srtJ A).filter fun j => decide (j.state = 2)).Pairwise fun a b => a.id ≠ b.id := by
    have hF : ((srtJ A).filter fun j => decide (j.state = 2)).Pairwise fun a b => befJ a b = true := i.a.sj.sublist List.filter_sublist
    refine hF.imp_of_mem fun {a b} ha hb hab e => ?_
    have := inc_uniq i.a.inc (hm a ha) (hm b hb) e
    rw [this, befJ_irr] at hab
    cases hab
  obtain ⟨H4, r4, i4, u4, e4⟩ := l_pass bq bm bk tries last tick _ hll (fun j hj => i.a.ok j (hm j hj)) v H3 so.own.rd (fun b hb h => by
    have h1 := so.new b hb
    have h2 := (r1.still s2).blk (h.still (r1.still s2).mdl so.still)
    omega) _ 0 H3 A (by simp) (ok1.fr st) r3 i1 (UpQ.refl _ _ _ _) (fun j hj => fnd_mem i.a.inc (hm j hj)) hn
  rw [pass_fold i.a] at r4 i4
  have u14 := u1.trans (UpQ.pre r1 st u4)
  obtain ⟨H5, t1, t2, t3⟩ := QR.tidy (v := .int .i64 0) ok r r4 u14
  refine ⟨H5, (d_jobs_Queue_Pass _ _ H (r := (.int .i64 0, H4)) ?_).trans (congrArg some t1), t2, i4, t3⟩
  generalize ((srtJ A).filter fun j => decide (j.state = 2)) = L at hlen e4
  have e4 : ∀ K : K, l_jobs_Queue_Pass_0 (.pointer (some ⟨bq, 0, none⟩)) (.int .i64 tick) v (.int .i64 (L.length : Int)) (.int .i64 0) H3 (blkK [] 1 K) = K .normal [] H4 := e4
  simp (disch := first | with_reducible rfl | assumption | omega | rfl | (simp only [go_sem]; first | done | omega)) only [go_sem, ↓reduceIte, reduceCtorEq, Nat.reduceEqDiff, Nat.reduceAdd, Nat.reduceSub, Nat.reduceMul, Nat.reduceDiv, Nat.reduceMod, Nat.reduceLeDiff, Nat.reduceLT, Nat.reduceBEq, Int.reduceEq, Int.reduceBEq, Int.reduceBNe, Int.reduceLT, Int.reduceLE, Int.reduceAdd, Int.reduceSub, Int.reduceNeg, Int.reduceToNat, Int.reducePow, Nat.reducePow, Int.reduceMul, Int.reduceDiv, ↓s_jobs_Queue_Pass, ↓enterK_eq m0, enterK_eq m0, h1, h2, fq, h3, hH1, ↓enterK_eq mn, enterK_eq mn, hH2, ↓enterK_eq m3, enterK_eq m3, hlen, e4]

end Go.Proofs.YtmiinbhnfojnbaaDoor

/-
  Chapter 46: the law's puts, takes, gets, taken.
  Conditions: none. By an AI agent.
-/
set_option maxRecDepth 10000
set_option linter.unusedSimpArgs false
set_option linter.unusedVariables false
namespace Go.Proofs.YtmiinbhnfojnbaaDoor
open Go Eng
attribute [local congr] bareK_congr' bothK_congr' quietK_congr'

theorem ceqs_job (a b : Jb) : ceqs a.l b.l = decide (a = b) := by
  obtain ⟨a1, a2, a3, a4, a5, a6, a7⟩ := a
  obtain ⟨b1, b2, b3, b4, b5, b6, b7⟩ := b
  have hs : (bl a3 = bl b3) = (a3 = b3) := propext ⟨fun h => Eng.bl_inj h, fun h => by rw [h]⟩
  simp only [Jb.l, ceqs, ceq, Jb.mk.injEq]
  apply Bool.eq_iff_iff.2
  simp [hs]
theorem job_eq' {ox oy : Operand} (a b : Jb) : xbin Tryd.prog .eql T.api_Job ox oy (.agg ⟨a.l⟩) (.agg ⟨b.l⟩) = some (.bool (decide (a = b))) := by
  have h := agg_eq (P := Tryd.prog) (t := T.api_Job) (xs := a.l) (ys := b.l) (ox := ox) (oy := oy) Tryd.underlying31 (by kernel_rfl) (by kernel_rfl) (by kernel_rfl) rfl rfl
  rw [h, ceqs_job]
theorem job_same {ox oy : Operand} (a : Jb) : xbin Tryd.prog .eql T.api_Job ox oy (.agg #[.int .i64 a.id, .int .i64 a.prio, .string a.body, .int .i64 a.state, .int .i64 a.tries, .int .i64 a.who, .int .i64 a.til]) (.agg #[.int .i64 a.id, .int .i64 a.prio, .string a.body, .int .i64 a.state, .int .i64 a.tries, .int .i64 a.who, .int .i64 a.til]) = some (.bool true) := by
  have := job_eq' (ox := ox) (oy := oy) a a
  rw [decide_eq_true rfl] at this
  exact this
theorem Jb.lit (a : Jb) : Value.agg ⟨a.l⟩ = .agg #[.int .i64 a.id, .int .i64 a.prio, .string a.body, .int .i64 a.state, .int .i64 a.tries, .int .i64 a.who, .int .i64 a.til] := rfl

/-! ### puts, takes, gets -/
theorem q_puts_of {H H' : AHeap} {p : Value} {prio n e : Int} {body : ByteArray} (m : CC F.jobs_Queue_Put [p, .int .i64 prio, .string body] H = some (.tuple #[.int .i64 n, .int .i64 e], H')) :
    CC F.law_puts [p, .int .i64 prio, .string body, .int .i64 n, .int .i64 e] H = some (tidy H (.bool true, H')) := by
  refine d_law_puts _ _ _ _ _ H (r := (.bool true, H')) ?_
  simp (disch := first | with_reducible rfl | assumption | omega | rfl | (simp only [go_sem]; first | done | omega)) only [go_sem, ↓reduceIte, reduceCtorEq, Nat.reduceEqDiff, Nat.reduceAdd, Nat.reduceSub, Nat.reduceMul, Nat.reduceDiv, Nat.reduceMod, Nat.reduceLeDiff, Nat.reduceLT, Nat.reduceBEq, Int.reduceEq, Int.reduceBEq, Int.reduceBNe, Int.reduceLT, Int.reduceLE, Int.reduceAdd, Int.reduceSub, Int.reduceNeg, Int.reduceToNat, Int.reducePow, Nat.reducePow, Int.reduceMul, Int.reduceDiv, ↓s_law_puts, ↓enterK_eq m, enterK_eq m]
theorem q_takes_of {H H1 H2 : AHeap} {p : Value} {who n e : Int} (j : Jb) (hH1 : H.push (.cells [.int .i64 j.id, .int .i64 j.prio, .string j.body, .int .i64 j.state, .int .i64 j.tries, .int .i64 j.who, .int .i64 j.til] T.api_Job true) = H1) (m : CC F.jobs_Queue_Take [p, .int .i64 who, .int .i64 n] H1 = some (.tuple #[.agg #[.int .i64 j.id, .int .i64 j.prio, .string j.body, .int .i64 j.state, .int .i64 j.tries, .int .i64 j.who, .int .i64 j.til], .int .i64 e], H2))
    (n2 : H1.n ≤ H2.n) (f2 : H2.f H.n = .cells [.int .i64 j.id, .int .i64 j.prio, .string j.body, .int .i64 j.state, .int .i64 j.tries, .int .i64 j.who, .int .i64 j.til] T.api_Job true) :
    ∃ H4, CC F.law_takes [p, .int .i64 who, .int .i64 n, .agg #[.int .i64 j.id, .int .i64 j.prio, .string j.body, .int .i64 j.state, .int .i64 j.tries, .int .i64 j.who, .int .i64 j.til], .int .i64 e] H = some (tidy H (.bool true, H4)) ∧ Still H2 H4 := by
  obtain ⟨s1, n1, f1⟩ := push_blk hH1
  obtain ⟨H3, hH3⟩ : ∃ H3, H2.push (.cells [.int .i64 0, .int .i64 0, .string (Eng.mk []), .int .i64 0, .int .i64 0, .int .i64 0, .int .i64 0] T.api_Job true) = H3 := ⟨_, rfl⟩
  obtain ⟨s3, n3, f3⟩ := push_blk hH3
  obtain ⟨H4, hH4⟩ : ∃ H4, H3.set H2.n (.cells [.int .i64 j.id, .int .i64 j.prio, .string j.body, .int .i64 j.state, .int .i64 j.tries, .int .i64 j.who, .int .i64 j.til] T.api_Job true) = H4 := ⟨_, rfl⟩
  obtain ⟨s4, n4, f4, _⟩ := set_blk hH4
  have g4 : H4.f H.n = .cells [.int .i64 j.id, .int .i64 j.prio, .string j.body, .int .i64 j.state, .int .i64 j.tries, .int .i64 j.who, .int .i64 j.til] T.api_Job true := by rw [s4.f (by omega) (by omega), s3.f (by omega) fun h => h]; exact f2
  have je : ∀ ox oy, xbin Tryd.prog .eql T.api_Job ox oy (.agg #[.int .i64 j.id, .int .i64 j.prio, .string j.body, .int .i64 j.state, .int .i64 j.tries, .int .i64 j.who, .int .i64 j.til]) (.agg #[.int .i64 j.id, .int .i64 j.prio, .string j.body, .int .i64 j.state, .int .i64 j.tries, .int .i64 j.who, .int .i64 j.til]) = some (.bool true) := fun ox oy => job_same j
  refine ⟨H4, d_law_takes _ _ _ _ _ H (r := (.bool true, H4)) ?_, s3.then s4 fun b hb h => by omega⟩
  simp (disch := first | with_reducible rfl | assumption | omega | rfl | (simp only [go_sem]; first | done | omega)) only [go_sem, ↓reduceIte, reduceCtorEq, Nat.reduceEqDiff, Nat.reduceAdd, Nat.reduceSub, Nat.reduceMul, Nat.reduceDiv, Nat.reduceMod, Nat.reduceLeDiff, Nat.reduceLT, Nat.reduceBEq, Int.reduceEq, Int.reduceBEq, Int.reduceBNe, Int.reduceLT, Int.reduceLE, Int.reduceAdd, Int.reduceSub, Int.reduceNeg, Int.reduceToNat, Int.reducePow, Nat.reducePow, Int.reduceMul, Int.reduceDiv, ↓s_law_takes, hH1, ↓enterK_eq m, enterK_eq m, hH3, f3, hH4, f4, g4, je]
theorem q_gets_of {H H1 H2 : AHeap} {p : Value} {id e : Int} (j : Jb) (hH1 : H.push (.cells [.int .i64 j.id, .int .i64 j.prio, .string j.body, .int .i64 j.state, .int .i64 j.tries, .int .i64 j.who, .int .i64 j.til] T.api_Job true) = H1) (m : CC F.jobs_Queue_Get [p, .int .i64 id] H1 = some (.tuple #[.agg #[.int .i64 j.id, .int .i64 j.prio, .string j.body, .int .i64 j.state, .int .i64 j.tries, .int .i64 j.who, .int .i64 j.til], .int .i64 e], H1)) :
    CC F.law_gets [p, .int .i64 id, .agg #[.int .i64 j.id, .int .i64 j.prio, .string j.body, .int .i64 j.state, .int .i64 j.tries, .int .i64 j.who, .int .i64 j.til], .int .i64 e] H = some (.bool true, H) := by
  obtain ⟨s1, n1, f1⟩ := push_blk hH1
  obtain ⟨H3, hH3⟩ : ∃ H3, H1.push (.cells [.int .i64 0, .int .i64 0, .string (Eng.mk []), .int .i64 0, .int .i64 0, .int .i64 0, .int .i64 0] T.api_Job true) = H3 := ⟨_, rfl⟩
  obtain ⟨s3, n3, f3⟩ := push_blk hH3
  obtain ⟨H4, hH4⟩ : ∃ H4, H3.set H1.n (.cells [.int .i64 j.id, .int .i64 j.prio, .string j.body, .int .i64 j.state, .int .i64 j.tries, .int .i64 j.who, .int .i64 j.til] T.api_Job true) = H4 := ⟨_, rfl⟩
  obtain ⟨s4, n4, f4, _⟩ := set_blk hH4
  have g4 : H4.f H.n = .cells [.int .i64 j.id, .int .i64 j.prio, .string j.body, .int .i64 j.state, .int .i64 j.tries, .int .i64 j.who, .int .i64 j.til] T.api_Job true := by rw [s4.f (by omega) (by omega), s3.f (by omega) fun h => h]; exact f1
  have je : ∀ ox oy, xbin Tryd.prog .eql T.api_Job ox oy (.agg #[.int .i64 j.id, .int .i64 j.prio, .string j.body, .int .i64 j.state, .int .i64 j.tries, .int .i64 j.who, .int .i64 j.til]) (.agg #[.int .i64 j.id, .int .i64 j.prio, .string j.body, .int .i64 j.state, .int .i64 j.tries, .int .i64 j.who, .int .i64 j.til]) = some (.bool true) := fun ox oy => job_same j
  refine pure_of (H' := H4) ?_ (d_law_gets _ _ _ _ H) rfl ((s1.trans s3).then s4 fun b hb h => by omega)
  simp (disch := first | with_reducible rfl | assumption | omega | rfl | (simp only [go_sem]; first | done | omega)) only [go_sem, ↓reduceIte, reduceCtorEq, Nat.reduceEqDiff, Nat.reduceAdd, Nat.reduceSub, Nat.reduceMul, Nat.reduceDiv, Nat.reduceMod, Nat.reduceLeDiff, Nat.reduceLT, Nat.reduceBEq, Int.reduceEq, Int.reduceBEq, Int.reduceBNe, Int.reduceLT, Int.reduceLE, Int.reduceAdd, Int.reduceSub, Int.reduceNeg, Int.reduceToNat, Int.reducePow, Nat.reducePow, Int.reduceMul, Int.reduceDiv, ↓s_law_gets, hH1, ↓enterK_eq m, enterK_eq m, hH3, f3, hH4, f4, g4, je]
section
variable {H : AHeap} {bq bm bk : Nat} {A : List Jb} {tries last now : Int}
/-- A state that is true of a queue. -/
structure QS (H : AHeap) (bq bm bk : Nat) (A : List Jb) (tries last now : Int) : Prop where
  ok : Ok H
  r : QR H bq bm bk A tries last now
  i : QI A tries last now
theorem QS.still {H' : AHeap} (q : QS H bq bm bk A tries last now) (s : Still H H') : QS H' bq bm bk A tries last now := ⟨q.ok.fr s, q.r.still s, q.i⟩
theorem QS.puts (q : QS H bq bm bk A tries last now) (hl : last < 900) (prio : Int) (body : ByteArray) (h : putBad prio body = 0) :
    ∃ H', CC F.law_puts [.pointer (some ⟨bq, 0, none⟩), .int .i64 prio, .string body, .int .i64 (last + 1), .int .i64 0] H = some (.bool true, H') ∧ QS H' bq bm bk (A ++ [newJ (last + 1) prio body]) tries (last + 1) now ∧ UpQ H bq bm bk H' := by
  have hb : ¬ (prio < 0 ∨ 9 < prio) := fun c => by unfold putBad at h; rw [if_pos c] at h; cases h
  have hc : ¬ 15 < (bl body).length := fun c => by unfold putBad at h; rw [if_neg hb, if_pos c] at h; cases h
  obtain ⟨H1, m1, r1, u1⟩ := q_QPut bq bm bk A tries last now prio body H q.ok q.r q.i hl (by omega) (by omega)
  obtain ⟨H2, t1, t2, t3⟩ := QR.tidy (v := .bool true) q.ok q.r r1 u1
  have hll := q.i.l
  have ht := q.i.t
  refine ⟨H2, (q_puts_of m1).trans (congrArg some t1), ⟨q.ok.fr t3.fr, t2, q.i.a.put (newJ_ok (by omega) (by omega) (by omega)) rfl, q.i.t, by omega, q.i.n, fun a ha hs => ?_⟩, t3⟩
  rcases List.mem_append.1 ha with h1 | h1
  · exact q.i.w a h1 hs
  · rw [List.mem_singleton.1 h1]; show (0 : Int) < tries; omega
theorem QS.putsBad (q : QS H bq bm bk A tries last now) (prio : Int) (body : ByteArray) (h : putBad prio body ≠ 0) :
    CC F.law_puts [.pointer (some ⟨bq, 0, none⟩), .int .i64 prio, .string body, .int .i64 0, .int .i64 (putBad prio body)] H = some (.bool true, H) := by
  rw [q_puts_of (q_QPut_bad bq bm bk A tries last now prio body H q.r h), tidy_same rfl (Fr.refl H)]
theorem QS.gets (q : QS H bq bm bk A tries last now) (id : Int) (j : Jb) (h : fnd A id = some j) : CC F.law_gets [.pointer (some ⟨bq, 0, none⟩), .int .i64 id, .agg #[.int .i64 j.id, .int .i64 j.prio, .string j.body, .int .i64 j.state, .int .i64 j.tries, .int .i64 j.who, .int .i64 j.til], .int .i64 0] H = some (.bool true, H) := by
  obtain ⟨H1, hH1⟩ : ∃ H1, H.push (.cells [.int .i64 j.id, .int .i64 j.prio, .string j.body, .int .i64 j.state, .int .i64 j.tries, .int .i64 j.who, .int .i64 j.til] T.api_Job true) = H1 := ⟨_, rfl⟩
  obtain ⟨s1, n1, f1⟩ := push_blk hH1
  have m := q_QGet bq bm bk A tries last now id H1 (q.ok.fr s1) (q.r.still s1) q.i
  rw [h] at m
  exact q_gets_of (H2 := H1) j hH1 m
theorem QS.takes (q : QS H bq bm bk A tries last now) (who n : Int) (j : Jb) (t : List Jb) (h : takeE A now who n = 0) (hj : waitJ A = j :: t) :
    ∃ H', CC F.law_takes [.pointer (some ⟨bq, 0, none⟩), .int .i64 who, .int .i64 n, .agg ⟨(takeJ j now who n).l⟩, .int .i64 0] H = some (.bool true, H') ∧ QS H' bq bm bk (repJ A (takeJ j now who n)) tries last now ∧ UpQ H bq bm bk H' := by
  generalize hx : takeJ j now who n = x
  obtain ⟨H1, hH1⟩ : ∃ H1, H.push (.cells [.int .i64 x.id, .int .i64 x.prio, .string x.body, .int .i64 x.state, .int .i64 x.tries, .int .i64 x.who, .int .i64 x.til] T.api_Job true) = H1 := ⟨_, rfl⟩
  obtain ⟨s1, n1, f1⟩ := push_blk hH1
  obtain ⟨H2, m2, r2, i2, u2⟩ := q_QTake bq bm bk A tries last now who n j t H1 (q.ok.fr s1) (q.r.still s1) q.i h hj
  rw [hx] at m2 r2 i2
  have hn : ¬ QB H1 bq bm bk H.n := fun h => by have := q.r.blk (h.still q.r.mdl s1); omega
  obtain ⟨H4, m4, s4⟩ := q_takes_of x hH1 m2 u2.fr.n (by rw [u2.fr.f (by omega) hn]; exact f1)
  obtain ⟨H5, t1, t2, t3⟩ := QR.tidy (v := .bool true) q.ok q.r (r2.still s4) ((UpQ.pre q.r s1 u2).trans (UpQ.of_still r2 s4))
  exact ⟨H5, m4.trans (congrArg some t1), ⟨q.ok.fr t3.fr, t2, i2⟩, t3⟩
theorem QS.takesBad (q : QS H bq bm bk A tries last now) (who n : Int) (h : takeE A now who n ≠ 0) :
    CC F.law_takes [.pointer (some ⟨bq, 0, none⟩), .int .i64 who, .int .i64 n, .agg #[.int .i64 0, .int .i64 0, .string (Eng.mk []), .int .i64 0, .int .i64 0, .int .i64 0, .int .i64 0], .int .i64 (takeE A now who n)] H = some (.bool true, H) := by
  obtain ⟨H1, hH1⟩ : ∃ H1, H.push (.cells [.int .i64 0, .int .i64 0, .string (Eng.mk []), .int .i64 0, .int .i64 0, .int .i64 0, .int .i64 0] T.api_Job true) = H1 := ⟨_, rfl⟩
  obtain ⟨s1, n1, f1⟩ := push_blk hH1
  have m2 := q_QTake_bad bq bm bk A tries last now who n H1 (q.ok.fr s1) (q.r.still s1) q.i h
  obtain ⟨H4, m4, s4⟩ := q_takes_of Z0 hH1 m2 (Nat.le_refl _) f1
  exact m4.trans (congrArg some (tidy_same rfl (s1.trans s4)))
theorem QS.finish (q : QS H bq bm bk A tries last now) (who id : Int) (h : takenE A who id = 0) :
    ∃ H', CC F.jobs_Queue_Finish [.pointer (some ⟨bq, 0, none⟩), .int .i64 who, .int .i64 id] H = some (.int .i64 0, H') ∧ QS H' bq bm bk (delJ A id) tries last now ∧ UpQ H bq bm bk H' := by
  obtain ⟨H1, m1, r1, u1⟩ := q_QFinish bq bm bk A tries last now who id H q.ok q.r q.i h
  exact ⟨H1, m1, ⟨q.ok.fr u1.fr, r1, q.i.a.del id, q.i.t, q.i.l, q.i.n, fun a ha => q.i.w a (mem_delJ.1 ha).1⟩, u1⟩
theorem QS.finishBad (q : QS H bq bm bk A tries last now) (who id : Int) (h : takenE A who id ≠ 0) :
    CC F.jobs_Queue_Finish [.pointer (some ⟨bq, 0, none⟩), .int .i64 who, .int .i64 id] H = some (.int .i64 (takenE A who id), H) :=
  q_QFinish_err _ who id _ h H (q_Qtaken_bad bq bm bk A tries last now who id H q.ok q.r q.i h)
theorem QS.back (q : QS H bq bm bk A tries last now) (who id : Int) (j : Jb) (h : takenE A who id = 0) (hf : fnd A id = some j) :
    ∃ H', CC F.jobs_Queue_Back [.pointer (some ⟨bq, 0, none⟩), .int .i64 who, .int .i64 id] H = some (.int .i64 0, H') ∧ QS H' bq bm bk (repJ A (backJ tries j)) tries last now ∧ UpQ H bq bm bk H' := by
  obtain ⟨H1, m1, r1, i1, u1⟩ := q_QBack bq bm bk A tries last now who id j H q.ok q.r q.i h hf
  exact ⟨H1, m1, ⟨q.ok.fr u1.fr, r1, i1⟩, u1⟩
theorem QS.revive (q : QS H bq bm bk A tries last now) (id : Int) (j : Jb) (hf : fnd A id = some j) (c : j.state = 3) :
    ∃ H', CC F.jobs_Queue_Revive [.pointer (some ⟨bq, 0, none⟩), .int .i64 id] H = some (.int .i64 0, H') ∧ QS H' bq bm bk (repJ A (reviveJ j)) tries last now ∧ UpQ H bq bm bk H' := by
  obtain ⟨H1, m1, r1, i1, u1⟩ := q_QRevive bq bm bk A tries last now id j H q.ok q.r q.i hf c
  exact ⟨H1, m1, ⟨q.ok.fr u1.fr, r1, i1⟩, u1⟩
theorem QS.pass (q : QS H bq bm bk A tries last now) (tick : Int) (h : passE now tick = 0) :
    ∃ H', CC F.jobs_Queue_Pass [.pointer (some ⟨bq, 0, none⟩), .int .i64 tick] H = some (.int .i64 0, H') ∧ QS H' bq bm bk (passJ A tries tick) tries last tick ∧ UpQ H bq bm bk H' := by
  obtain ⟨H1, m1, r1, i1, u1⟩ := q_QPass bq bm bk A tries last now tick H q.ok q.r q.i h
  exact ⟨H1, m1, ⟨q.ok.fr u1.fr, r1, i1⟩, u1⟩
end
theorem q_ltaken (id prio : Int) (body : ByteArray) (tr who til : Int) (H : AHeap) : CC F.law_taken [.int .i64 id, .int .i64 prio, .string body, .int .i64 tr, .int .i64 who, .int .i64 til] H = some (.agg #[.int .i64 id, .int .i64 prio, .string body, .int .i64 2, .int .i64 tr, .int .i64 who, .int .i64 til], H) := by
  obtain ⟨H1, hH1⟩ : ∃ H1, H.push (.cells [.int .i64 0, .int .i64 0, .string (Eng.mk []), .int .i64 0, .int .i64 0, .int .i64 0, .int .i64 0] T.api_Job true) = H1 := ⟨_, rfl⟩
  obtain ⟨s1, n1, f1⟩ := push_blk hH1
  obtain ⟨H2, hH2⟩ : ∃ H2, H1.set H.n (.cells [.int .i64 id, .int .i64 prio, .string body, .int .i64 2, .int .i64 tr, .int .i64 who, .int .i64 til] T.api_Job true) = H2 := ⟨_, rfl⟩
  obtain ⟨s2, n2, f2, _⟩ := set_blk hH2
  refine pure_of (H' := H2) ?_ (d_law_taken _ _ _ _ _ _ H) rfl (s1.then s2 fun b hb h => by omega)
  simp (disch := first | with_reducible rfl | assumption | omega | rfl | (simp only [go_sem]; first | done | omega)) only [go_sem, ↓reduceIte, reduceCtorEq, Nat.reduceEqDiff, Nat.reduceAdd, Nat.reduceSub, Nat.reduceMul, Nat.reduceDiv, Nat.reduceMod, Nat.reduceLeDiff, Nat.reduceLT, Nat.reduceBEq, Int.reduceEq, Int.reduceBEq, Int.reduceBNe, Int.reduceLT, Int.reduceLE, Int.reduceAdd, Int.reduceSub, Int.reduceNeg, Int.reduceToNat, Int.reducePow, Nat.reducePow, Int.reduceMul, Int.reduceDiv, ↓s_law_taken, hH1, f1, hH2, f2, xload_job]

end Go.Proofs.YtmiinbhnfojnbaaDoor

/-
  Chapter 46: known() returns true.
  Conditions: none. By an AI agent.
-/
set_option maxRecDepth 10000
set_option linter.unusedSimpArgs false
set_option linter.unusedVariables false
namespace Go.Proofs.YtmiinbhnfojnbaaDoor
open Go Eng
attribute [local congr] bareK_congr' bothK_congr' quietK_congr'

def kn0 : List Jb := []
def kn1 : List Jb := [⟨1, 3, Eng.mk [97], 1, 0, 0, 0⟩]
def kn2 : List Jb := [⟨1, 3, Eng.mk [97], 1, 0, 0, 0⟩, ⟨2, 7, Eng.mk [98], 1, 0, 0, 0⟩]
def kn3 : List Jb := [⟨1, 3, Eng.mk [97], 1, 0, 0, 0⟩, ⟨2, 7, Eng.mk [98], 1, 0, 0, 0⟩, ⟨3, 3, Eng.mk [99], 1, 0, 0, 0⟩]
def kn4 : List Jb := [⟨1, 3, Eng.mk [97], 1, 0, 0, 0⟩, ⟨2, 7, Eng.mk [98], 2, 1, 5, 10⟩, ⟨3, 3, Eng.mk [99], 1, 0, 0, 0⟩]
def kn5 : List Jb := [⟨1, 3, Eng.mk [97], 2, 1, 6, 4⟩, ⟨2, 7, Eng.mk [98], 2, 1, 5, 10⟩, ⟨3, 3, Eng.mk [99], 1, 0, 0, 0⟩]
def kn6 : List Jb := [⟨1, 3, Eng.mk [97], 2, 1, 6, 4⟩, ⟨3, 3, Eng.mk [99], 1, 0, 0, 0⟩]
def kn7 : List Jb := [⟨1, 3, Eng.mk [97], 1, 1, 0, 0⟩, ⟨3, 3, Eng.mk [99], 1, 0, 0, 0⟩]
def kn8 : List Jb := [⟨1, 3, Eng.mk [97], 2, 2, 6, 4⟩, ⟨3, 3, Eng.mk [99], 1, 0, 0, 0⟩]
def kn9 : List Jb := [⟨1, 3, Eng.mk [97], 3, 2, 0, 0⟩, ⟨3, 3, Eng.mk [99], 1, 0, 0, 0⟩]
def kn10 : List Jb := [⟨1, 3, Eng.mk [97], 3, 2, 0, 0⟩, ⟨3, 3, Eng.mk [99], 2, 1, 9, 5⟩]
def kn11 : List Jb := [⟨1, 3, Eng.mk [97], 1, 0, 0, 0⟩, ⟨3, 3, Eng.mk [99], 2, 1, 9, 5⟩]

set_option maxHeartbeats 4000000 in
theorem k_known (H : AHeap) (ok : Ok H) : CC F.law_known [] H = some (.bool true, H) := by
  obtain ⟨bq, bm, bk, H0, m0, r0, i0, s0, new0⟩ := q_QNew 2 H (by decide)
  have q0 : QS H0 bq bm bk kn0 2 0 0 := ⟨ok.fr s0, r0, i0⟩
  obtain ⟨H1, m1, q1, u1⟩ : ∃ H', CC F.law_puts [.pointer (some ⟨bq, 0, none⟩), .int .i64 3, .string (Eng.mk [97]), .int .i64 1, .int .i64 0] H0 = some (.bool true, H') ∧ QS H' bq bm bk kn1 2 1 0 ∧ UpQ H0 bq bm bk H' := q0.puts (by decide) 3 (Eng.mk [97]) (by kernel_rfl)
  obtain ⟨H2, m2, q2, u2⟩ : ∃ H', CC F.law_puts [.pointer (some ⟨bq, 0, none⟩), .int .i64 7, .string (Eng.mk [98]), .int .i64 2, .int .i64 0] H1 = some (.bool true, H') ∧ QS H' bq bm bk kn2 2 2 0 ∧ UpQ H1 bq bm bk H' := q1.puts (by decide) 7 (Eng.mk [98]) (by kernel_rfl)
  obtain ⟨H3, m3, q3, u3⟩ : ∃ H', CC F.law_puts [.pointer (some ⟨bq, 0, none⟩), .int .i64 3, .string (Eng.mk [99]), .int .i64 3, .int .i64 0] H2 = some (.bool true, H') ∧ QS H' bq bm bk kn3 2 3 0 ∧ UpQ H2 bq bm bk H' := q2.puts (by decide) 3 (Eng.mk [99]) (by kernel_rfl)
  obtain ⟨H4, m4, q4, u4⟩ : ∃ H', CC F.law_takes [.pointer (some ⟨bq, 0, none⟩), .int .i64 5, .int .i64 10, .agg #[.int .i64 2, .int .i64 7, .string (Eng.mk [98]), .int .i64 2, .int .i64 1, .int .i64 5, .int .i64 10], .int .i64 0] H3 = some (.bool true, H') ∧ QS H' bq bm bk kn4 2 3 0 ∧ UpQ H3 bq bm bk H' := q3.takes 5 10 ⟨2, 7, Eng.mk [98], 1, 0, 0, 0⟩ [⟨1, 3, Eng.mk [97], 1, 0, 0, 0⟩, ⟨3, 3, Eng.mk [99], 1, 0, 0, 0⟩] (by kernel_rfl) (by kernel_rfl)
  obtain ⟨H5, m5, q5, u5⟩ : ∃ H', CC F.law_takes [.pointer (some ⟨bq, 0, none⟩), .int .i64 6, .int .i64 4, .agg #[.int .i64 1, .int .i64 3, .string (Eng.mk [97]), .int .i64 2, .int .i64 1, .int .i64 6, .int .i64 4], .int .i64 0] H4 = some (.bool true, H') ∧ QS H' bq bm bk kn5 2 3 0 ∧ UpQ H4 bq bm bk H' := q4.takes 6 4 ⟨1, 3, Eng.mk [97], 1, 0, 0, 0⟩ [⟨3, 3, Eng.mk [99], 1, 0, 0, 0⟩] (by kernel_rfl) (by kernel_rfl)
  obtain ⟨H6, m6, q6, u6⟩ : ∃ H', CC F.jobs_Queue_Finish [.pointer (some ⟨bq, 0, none⟩), .int .i64 5, .int .i64 2] H5 = some (.int .i64 0, H') ∧ QS H' bq bm bk kn6 2 3 0 ∧ UpQ H5 bq bm bk H' := q5.finish 5 2 (by kernel_rfl)
  have x6 : CC F.jobs_Queue_Finish [.pointer (some ⟨bq, 0, none⟩), .int .i64 5, .int .i64 1] H6 = some (.int .i64 8, H6) := q6.finishBad 5 1 (by decide)
  obtain ⟨H7, m7, q7, u7⟩ : ∃ H', CC F.jobs_Queue_Back [.pointer (some ⟨bq, 0, none⟩), .int .i64 6, .int .i64 1] H6 = some (.int .i64 0, H') ∧ QS H' bq bm bk kn7 2 3 0 ∧ UpQ H6 bq bm bk H' := q6.back 6 1 ⟨1, 3, Eng.mk [97], 2, 1, 6, 4⟩ (by kernel_rfl) (by kernel_rfl)
  obtain ⟨H8, m8, q8, u8⟩ : ∃ H', CC F.law_takes [.pointer (some ⟨bq, 0, none⟩), .int .i64 6, .int .i64 4, .agg #[.int .i64 1, .int .i64 3, .string (Eng.mk [97]), .int .i64 2, .int .i64 2, .int .i64 6, .int .i64 4], .int .i64 0] H7 = some (.bool true, H') ∧ QS H' bq bm bk kn8 2 3 0 ∧ UpQ H7 bq bm bk H' := q7.takes 6 4 ⟨1, 3, Eng.mk [97], 1, 1, 0, 0⟩ [⟨3, 3, Eng.mk [99], 1, 0, 0, 0⟩] (by kernel_rfl) (by kernel_rfl)
  obtain ⟨H9, m9, q9, u9⟩ : ∃ H', CC F.jobs_Queue_Pass [.pointer (some ⟨bq, 0, none⟩), .int .i64 4] H8 = some (.int .i64 0, H') ∧ QS H' bq bm bk kn9 2 3 4 ∧ UpQ H8 bq bm bk H' := q8.pass 4 (by kernel_rfl)
  have x9 : CC F.law_gets [.pointer (some ⟨bq, 0, none⟩), .int .i64 1, .agg #[.int .i64 1, .int .i64 3, .string (Eng.mk [97]), .int .i64 3, .int .i64 2, .int .i64 0, .int .i64 0], .int .i64 0] H9 = some (.bool true, H9) := q9.gets 1 ⟨1, 3, Eng.mk [97], 3, 2, 0, 0⟩ (by kernel_rfl)
  obtain ⟨H10, m10, q10, u10⟩ : ∃ H', CC F.law_takes [.pointer (some ⟨bq, 0, none⟩), .int .i64 9, .int .i64 1, .agg #[.int .i64 3, .int .i64 3, .string (Eng.mk [99]), .int .i64 2, .int .i64 1, .int .i64 9, .int .i64 5], .int .i64 0] H9 = some (.bool true, H') ∧ QS H' bq bm bk kn10 2 3 4 ∧ UpQ H9 bq bm bk H' := q9.takes 9 1 ⟨3, 3, Eng.mk [99], 1, 0, 0, 0⟩ [] (by kernel_rfl) (by kernel_rfl)
  have x10 : CC F.law_takes [.pointer (some ⟨bq, 0, none⟩), .int .i64 9, .int .i64 1, .agg #[.int .i64 0, .int .i64 0, .string (Eng.mk []), .int .i64 0, .int .i64 0, .int .i64 0, .int .i64 0], .int .i64 9] H10 = some (.bool true, H10) := q10.takesBad 9 1 (by decide)
  obtain ⟨H11, m11, q11, u11⟩ : ∃ H', CC F.jobs_Queue_Revive [.pointer (some ⟨bq, 0, none⟩), .int .i64 1] H10 = some (.int .i64 0, H') ∧ QS H' bq bm bk kn11 2 3 4 ∧ UpQ H10 bq bm bk H' := q10.revive 1 ⟨1, 3, Eng.mk [97], 3, 2, 0, 0⟩ (by kernel_rfl) rfl
  have x11 : CC F.law_gets [.pointer (some ⟨bq, 0, none⟩), .int .i64 1, .agg #[.int .i64 1, .int .i64 3, .string (Eng.mk [97]), .int .i64 1, .int .i64 0, .int .i64 0, .int .i64 0], .int .i64 0] H11 = some (.bool true, H11) := q11.gets 1 ⟨1, 3, Eng.mk [97], 1, 0, 0, 0⟩ (by kernel_rfl)
  have y11 : CC F.jobs_Queue_Pass [.pointer (some ⟨bq, 0, none⟩), .int .i64 3] H11 = some (.int .i64 14, H11) := q_QPass_bad bq bm bk kn11 2 3 4 3 H11 q11.r (by decide)
  have z11 : CC F.law_puts [.pointer (some ⟨bq, 0, none⟩), .int .i64 10, .string (Eng.mk [120]), .int .i64 0, .int .i64 2] H11 = some (.bool true, H11) := q11.putsBad 10 (Eng.mk [120]) (by decide)
  obtain ⟨v, H12, m12, so⟩ := q_QJobs bq bm bk kn11 2 3 4 H11 q11.ok q11.r q11.i
  have hs : srtJ kn11 = kn11 := by kernel_rfl
  rw [hs] at so
  have hl : lenS v = some (.int .i64 2) := so.own.rd.lenS
  obtain ⟨b0, o0, ix0, _, c0, _⟩ := rd_job so.own.rd (i := 0) (by decide)
  obtain ⟨b1, o1, ix1, _, c1, _⟩ := rd_job so.own.rd (i := 1) (by decide)
  have ix0 : ixS 7 v (.int .i64 0) = some (.pointer (some ⟨b0, o0, none⟩)) := ix0
  have ix1 : ixS 7 v (.int .i64 1) = some (.pointer (some ⟨b1, o1, none⟩)) := ix1
  have e0 : cellB (H12.f b0) o0 = some (.int .i64 1) := cutB_cell c0 (i := 0) (by decide)
  have e1 : cellB (H12.f b1) o1 = some (.int .i64 3) := cutB_cell c1 (i := 0) (by decide)
  have t1 := fun H => q_ltaken 2 7 (Eng.mk [98]) 1 5 10 H
  have t2 := fun H => q_ltaken 1 3 (Eng.mk [97]) 1 6 4 H
  have t3 := fun H => q_ltaken 1 3 (Eng.mk [97]) 2 6 4 H
  have t4 := fun H => q_ltaken 3 3 (Eng.mk [99]) 1 9 5 H
  have U : UpQ H0 bq bm bk H11 := ((((((((((u1.trans u2).trans u3).trans u4).trans u5).trans u6).trans u7).trans u8).trans u9).trans u10).trans u11)
  have st : Still H H12 := ((s0.then U.fr fun b hb h => by have := new0 b h; omega).trans so.still)
  refine pure_of (H' := H12) ?_ (d_law_known H) rfl st
  simp (disch := first | with_reducible rfl | assumption | omega | rfl | (simp only [go_sem]; first | done | omega)) only [go_sem, ↓reduceIte, reduceCtorEq, Nat.reduceEqDiff, Nat.reduceAdd, Nat.reduceSub, Nat.reduceMul, Nat.reduceDiv, Nat.reduceMod, Nat.reduceLeDiff, Nat.reduceLT, Nat.reduceBEq, Int.reduceEq, Int.reduceBEq, Int.reduceBNe, Int.reduceLT, Int.reduceLE, Int.reduceAdd, Int.reduceSub, Int.reduceNeg, Int.reduceToNat, Int.reducePow, Nat.reducePow, Int.reduceMul, Int.reduceDiv, ↓s_law_known, ↓enterK_eq m0, enterK_eq m0, ↓enterK_eq m1, enterK_eq m1, ↓enterK_eq m2, enterK_eq m2, ↓enterK_eq m3, enterK_eq m3, enterK_eq (t1 _), ↓enterK_eq m4, enterK_eq m4, enterK_eq (t2 _), ↓enterK_eq m5, enterK_eq m5, ↓enterK_eq m6, enterK_eq m6, ↓enterK_eq x6, enterK_eq x6, ↓enterK_eq m7, enterK_eq m7, enterK_eq (t3 _), ↓enterK_eq m8, enterK_eq m8, ↓enterK_eq m9, enterK_eq m9, ↓enterK_eq x9, enterK_eq x9, enterK_eq (t4 _), ↓enterK_eq m10, enterK_eq m10, ↓enterK_eq x10, enterK_eq x10, ↓enterK_eq m11, enterK_eq m11, ↓enterK_eq x11, enterK_eq x11, ↓enterK_eq y11, enterK_eq y11, ↓enterK_eq z11, enterK_eq z11, ↓enterK_eq m12, enterK_eq m12, hl, ix0, ix1, e0, e1]

end Go.Proofs.YtmiinbhnfojnbaaDoor

/-
  Chapter 46: small; the law JobsNone.
  Conditions: none. By an AI agent.
-/
set_option maxRecDepth 10000
set_option linter.unusedSimpArgs false
set_option linter.unusedVariables false
namespace Go.Proofs.YtmiinbhnfojnbaaDoor
open Go Eng
attribute [local congr] bareK_congr' bothK_congr' quietK_congr'

structure Act where
  what : Int
  who : Int
  n : Int
  body : ByteArray
/-! ### small -/
end Go.Proofs.YtmiinbhnfojnbaaDoor

/-
  The seat's functions as terms over the engine's combinators (a program of ours printed it).
  Conditions: none. By an AI agent.
-/
set_option linter.unusedVariables false
namespace Go.Proofs.YtmiinbhnfojnbaaDoor
open Go Eng

/-! ticketline.ticketlinelaw46.JobsBodies -/

noncomputable def s_law_JobsBodies (mg : GT) (mc : CT) (ms : ST) (P : Program) (C : CallF) (L0 : Value → Value → Value → Value → AHeap → K → Res) (a0 : Value) (a1 : Value) (H : AHeap) (K0 : K) : Res :=
bareK (lenT a0) H fun t9 h1 =>
bareK (xbin P .gtr T.int (.tmp 9) (.const (.int .i64 15)) t9 (.int .i64 15)) h1 fun t10 h2 =>
mg t10 false (fun o1 => o1 a1 h2) h2 fun t12 h3 =>
mg t10 false (fun o2 => bareK (xbin P .lss T.int (.tmp 12) (.const (.int .i64 0)) t12 (.int .i64 0)) h3 o2) h3 fun t13 h4 =>
pickK t10 (.bool true) t13 fun t14 =>
mg t14 false (fun o3 => o3 a1 h4) h4 fun t16 h5 =>
mg t14 false (fun o4 => bareK (xbin P .gtr T.int (.tmp 16) (.const (.int .i64 9)) t16 (.int .i64 9)) h5 o4) h5 fun t17 h6 =>
pickK t14 (.bool true) t17 fun t18 =>
mc t18 (fun k5 => enterK C F.law_known [] h6 fun t19 h7 =>
k5 .ret [(4, t19)] h7) (fun k5 =>
k5 .normal [(0, a0), (1, a1)] h6) (seqK (fun tT h8 =>
enterK C F.jobs_New [(.int .i64 100)] h8 fun t21 h9 =>
bareK (xextract t21 0) h9 fun t22 h10 =>
bareK (xextract t21 1) h10 fun t23 h11 =>
bareK (xbin P .eql T.p_jobs_Queue (.tmp 24) (.const (.pointer none)) t22 (.pointer none)) h11 fun t25 h12 =>
mg t25 false (fun o6 => o6 t23 h12) h12 fun t27 h13 =>
mg t25 false (fun o7 => bareK (xbin P .neq T.api_Errno (.tmp 27) (.const (.int .i64 0)) t27 (.int .i64 0)) h13 o7) h13 fun t28 h14 =>
pickK t25 (.bool true) t28 fun t29 =>
mg t29 false (fun o8 => o8 t22 h14) h14 fun t31 h15 =>
mg t29 false (fun o9 => o9 (get tT 1) h15) h15 fun t32 h16 =>
mg t29 false (fun o10 => o10 (get tT 0) h16) h16 fun t33 h17 =>
mg t29 false (fun o11 => enterK C F.law_puts [t31, t32, t33, (.int .i64 1), (.int .i64 0)] h17 o11) h17 fun t34 h18 =>
mg t29 false (fun o12 => bareK (xun P .not t34) h18 o12) h18 fun t35 h19 =>
pickK t29 (.bool true) t35 fun t36 =>
mc t36 (fun k13 => k13 .ret [(4, (.bool false))] h19) (fun k13 =>
k13 .normal [(0, (get tT 0)), (1, (get tT 1)), (5, t22)] h19) (seqK (fun tT_1 h20 =>
ms (fun k14 =>
L0 (get tT_1 0) (get tT_1 1) (get tT_1 5) (.int .i64 1) h20 (blkK [0, 1, 5] 0 k14)) (seqK (fun tT_2 h21 =>
bareK (bldS #[(.int .i64 0), (.int .i64 0), (.string (mk [])), (.int .i64 0), (.int .i64 0), (.int .i64 0), (.int .i64 0)] [(0, 1), (1, 1), (2, 1), (3, 1), (4, 1), (5, 1), (6, 1)] [(0, (.int .i64 1)), (1, (get tT_2 1)), (2, (get tT_2 0)), (3, (.int .i64 3)), (4, (.int .i64 100))]) h21 fun t56 h22 =>
enterK C F.law_gets [(get tT_2 5), (.int .i64 1), t56, (.int .i64 0)] h22 fun t57 h23 =>
mg t57 true (fun o15 => enterK C F.law_known [] h23 o15) h23 fun t59 h24 =>
pickK t57 t59 (.bool false) fun t60 =>
K0 .ret [(4, t60)] h24) K0)) K0)) K0)

noncomputable def s_law_JobsBodies_b0 (mg : GT) (mc : CT) (ms : ST) (P : Program) (C : CallF) (L0 : Value → Value → Value → Value → AHeap → K → Res) (v0 : Value) (v1 : Value) (v5 : Value) (v7 : Value) (H : AHeap) (k : K) : Res :=
bareK (xbin P .leq T.int (.tmp 37) (.const (.int .i64 100)) v7 (.int .i64 100)) H fun t38 h21 =>
mc t38 (fun k15 => k15 .normal [(0, v0), (1, v1), (5, v5), (7, v7)] h21) (fun k15 =>
k15 (.exit 0) [(38, t38), (37, v7), (0, v0), (1, v1), (5, v5), (7, v7)] h21) (seqK (fun tT h22 =>
ms (fun k16 =>
bareK (bldS #[(.int .i64 0), (.int .i64 0), (.string (mk [])), (.int .i64 0), (.int .i64 0), (.int .i64 0), (.int .i64 0)] [(0, 1), (1, 1), (2, 1), (3, 1), (4, 1), (5, 1), (6, 1)] [(0, (.int .i64 1)), (1, (get tT 1)), (2, (get tT 0)), (3, (.int .i64 2)), (4, (get tT 7)), (5, (.int .i64 1000)), (6, (.int .i64 1099511627776))]) h22 fun t45 h23 =>
enterK C F.law_takes [(get tT 5), (.int .i64 1000), (.int .i64 1099511627776), t45, (.int .i64 0)] h23 fun t46 h24 =>
bareK (xun P .not t46) h24 fun t47 h25 =>
mg t47 false (fun o17 => o17 (get tT 5) h25) h25 fun t49 h26 =>
mg t47 false (fun o18 => enterK C F.jobs_Queue_Back [t49, (.int .i64 1000), (.int .i64 1)] h26 o18) h26 fun t50 h27 =>
mg t47 false (fun o19 => bareK (xbin P .neq T.api_Errno (.tmp 50) (.const (.int .i64 0)) t50 (.int .i64 0)) h27 o19) h27 fun t51 h28 =>
pickK t47 (.bool true) t51 fun t52 =>
mc t52 (fun k20 => k20 .ret [(4, (.bool false))] h28) (fun k20 =>
k20 .normal [(0, (get tT 0)), (1, (get tT 1)), (5, (get tT 5)), (7, (get tT 7))] h28) (blkK [0, 1, 5, 7] 1 k16)) (seqK (fun tT_1 h29 =>
bareK (xbin P .add T.int (.tmp 39) (.const (.int .i64 1)) (get tT_1 7) (.int .i64 1)) h29 fun t40 h30 =>
k .normal [(0, (get tT_1 0)), (1, (get tT_1 1)), (5, (get tT_1 5)), (7, t40)] h30) (afterK [0, 1, 5, 7] k))) (afterK [0, 1, 5, 7] k))

theorem s_law_JobsBodies_eq (M : CombL) (C : CallF) (LP : LoopH) (a0 : Value) (a1 : Value) (H : AHeap) : dBodyL M Tryd.prog hints C LP F.law_JobsBodies [a0, a1] H = s_law_JobsBodies M.b.g M.c M.s Tryd.prog C (fun v0 v1 v5 v7 H k => loopL M Tryd.prog hints C LP F.law_JobsBodies 0 [(0, v0), (1, v1), (5, v5), (7, v7)] H k) a0 a1 H (endK Tryd.prog [.tmp 4]) := by kernel_rfl

theorem s_law_JobsBodies_b0_eq (M : CombL) (C : CallF) (LP : LoopH) (v0 : Value) (v1 : Value) (v5 : Value) (v7 : Value) (H : AHeap) (k : K) : bodyL M Tryd.prog hints C LP F.law_JobsBodies 0 [(0, v0), (1, v1), (5, v5), (7, v7)] H (afterK [0, 1, 5, 7] k) = s_law_JobsBodies_b0 M.b.g M.c M.s Tryd.prog C (fun v0 v1 v5 v7 H k => loopL M Tryd.prog hints C LP F.law_JobsBodies 0 [(0, v0), (1, v1), (5, v5), (7, v7)] H k) v0 v1 v5 v7 H k := by kernel_rfl

end Go.Proofs.YtmiinbhnfojnbaaDoor

/-
  The equations of the seat's functions over calls in the limit (a program of ours printed it).
  Conditions: none. By an AI agent.
-/
set_option linter.unusedVariables false
namespace Go.Proofs.YtmiinbhnfojnbaaDoor
open Go Eng



noncomputable def l_law_JobsBodies_0 (v0 : Value) (v1 : Value) (v5 : Value) (v7 : Value) (H : AHeap) (k : K) : Res := loopL stdL Tryd.prog hints CC limLP F.law_JobsBodies 0 [(0, v0), (1, v1), (5, v5), (7, v7)] H k
theorem r_law_JobsBodies_0 (v0 : Value) (v1 : Value) (v5 : Value) (v7 : Value) (H : AHeap) (k : K) : l_law_JobsBodies_0 v0 v1 v5 v7 H k = s_law_JobsBodies_b0 guardK condL shareL Tryd.prog CC l_law_JobsBodies_0 v0 v1 v5 v7 H (seqK (fun T H => l_law_JobsBodies_0 (get T 0) (get T 1) (get T 5) (get T 7) H k) k) := ((loopL_next (by kernel_rfl) rfl H k).trans (s_law_JobsBodies_b0_eq stdL CC limLP v0 v1 v5 v7 H _)).trans (by kernel_rfl)
theorem d_law_JobsBodies (a0 : Value) (a1 : Value) (H : AHeap) {r : Value × AHeap} (h : s_law_JobsBodies guardK condL shareL Tryd.prog CC l_law_JobsBodies_0 a0 a1 H (endK Tryd.prog [.tmp 4]) = some r) : CC F.law_JobsBodies [a0, a1] H = some (tidy H r) := D_body (by kernel_rfl) ((s_law_JobsBodies_eq stdL CC limLP a0 a1 H).trans (Eq.trans (show s_law_JobsBodies stdL.b.g stdL.c stdL.s Tryd.prog CC (fun v0 v1 v5 v7 H k => loopL stdL Tryd.prog hints CC limLP F.law_JobsBodies 0 [(0, v0), (1, v1), (5, v5), (7, v7)] H k) a0 a1 H (endK Tryd.prog [.tmp 4]) = s_law_JobsBodies guardK condL shareL Tryd.prog CC l_law_JobsBodies_0 a0 a1 H (endK Tryd.prog [.tmp 4]) by kernel_rfl) h))

end Go.Proofs.YtmiinbhnfojnbaaDoor

/-
  Chapter 46: the law JobsBodies.
  Conditions: none. By an AI agent.
-/
set_option maxRecDepth 10000
set_option linter.unusedSimpArgs false
set_option linter.unusedVariables false
namespace Go.Proofs.YtmiinbhnfojnbaaDoor
open Go Eng
attribute [local congr] bareK_congr' bothK_congr' quietK_congr'

/-- The one job, after some rounds. -/
def oneJ (prio : Int) (body : ByteArray) (k : Int) : Jb := ⟨1, prio, body, if 100 ≤ k then 3 else 1, k, 0, 0⟩
theorem one_back (prio : Int) (body : ByteArray) (k : Int) : backJ 100 ⟨1, prio, body, 2, k, 1000, 1099511627776⟩ = oneJ prio body k := by
  unfold backJ oneJ; rfl
theorem one_take (prio : Int) (body : ByteArray) (k : Int) : takeJ (oneJ prio body k) 0 1000 1099511627776 = ⟨1, prio, body, 2, k + 1, 1000, 1099511627776⟩ := rfl
theorem l_bodies (bq bm bk : Nat) (prio : Int) (body : ByteArray) : ∀ (d k : Nat) (H : AHeap), k + d = 100 → QS H bq bm bk [oneJ prio body k] 100 1 0 →
    ∃ H', QS H' bq bm bk [oneJ prio body 100] 100 1 0 ∧ ∀ K : K, l_law_JobsBodies_0 (.string body) (.int .i64 prio) (.pointer (some ⟨bq, 0, none⟩)) (.int .i64 ((k : Int) + 1)) H (blkK [0, 1, 5] 0 K) = K .normal [(0, .string body), (1, .int .i64 prio), (5, .pointer (some ⟨bq, 0, none⟩))] H'
  | 0, k, H, hd, q => by
    obtain rfl : k = 100 := by omega
    refine ⟨H, q, fun K => ?_⟩
    have hlt : ¬ ((100 : Nat) : Int) + 1 ≤ 100 := by decide
    rw [r_law_JobsBodies_0]
    simp (disch := first | with_reducible rfl | assumption | omega | rfl | (simp only [go_sem]; first | done | omega)) only [go_sem, ↓reduceIte, reduceCtorEq, Nat.reduceEqDiff, Nat.reduceAdd, Nat.reduceSub, Nat.reduceMul, Nat.reduceDiv, Nat.reduceMod, Nat.reduceLeDiff, Nat.reduceLT, Nat.reduceBEq, Int.reduceEq, Int.reduceBEq, Int.reduceBNe, Int.reduceLT, Int.reduceLE, Int.reduceAdd, Int.reduceSub, Int.reduceNeg, Int.reduceToNat, Int.reducePow, Nat.reducePow, Int.reduceMul, Int.reduceDiv, ↓s_law_JobsBodies_b0, hlt]
  | d + 1, k, H, hd, q => by
    have hk : ¬ (100 : Int) ≤ (k : Int) := by omega
    have hst : (oneJ prio body k).state = 1 := by unfold oneJ; exact if_neg hk
    have hw : waitJ [oneJ prio body k] = [oneJ prio body k] := by
      show ([oneJ prio body k].filter fun j => decide (j.state = 1)) = _
      rw [List.filter_cons_of_pos (by rw [hst]; rfl)]; rfl
    have hE : takeE [oneJ prio body k] 0 1000 1099511627776 = 0 := by
      unfold takeE
      rw [hw, if_neg (by omega), if_neg (by simp)]
    obtain ⟨H1, m1, q1, u1⟩ := q.takes 1000 1099511627776 (oneJ prio body k) [] hE hw
    rw [one_take] at m1 q1
    have er : repJ [oneJ prio body k] ⟨1, prio, body, 2, (k : Int) + 1, 1000, 1099511627776⟩ = [⟨1, prio, body, 2, (k : Int) + 1, 1000, 1099511627776⟩] := rfl
    rw [er] at q1
    obtain ⟨H2, m2, q2, u2⟩ := q1.back 1000 1 ⟨1, prio, body, 2, (k : Int) + 1, 1000, 1099511627776⟩ rfl rfl
    rw [one_back] at q2
    have er2 : repJ [⟨1, prio, body, 2, (k : Int) + 1, 1000, 1099511627776⟩] (oneJ prio body ((k : Int) + 1)) = [oneJ prio body ((k : Int) + 1)] := rfl
    rw [er2] at q2
    have m1 : CC F.law_takes [.pointer (some ⟨bq, 0, none⟩), .int .i64 1000, .int .i64 1099511627776, .agg #[.int .i64 1, .int .i64 prio, .string body, .int .i64 2, .int .i64 ((k : Int) + 1), .int .i64 1000, .int .i64 1099511627776], .int .i64 0] H = some (.bool true, H1) := m1
    have e1 : ((k : Int) + 1) = ((k + 1 : Nat) : Int) := by omega
    have q2' : QS H2 bq bm bk [oneJ prio body ((k + 1 : Nat) : Int)] 100 1 0 := by rw [← e1]; exact q2
    obtain ⟨H', q', e'⟩ := l_bodies bq bm bk prio body d (k + 1) H2 (by omega) q2'
    refine ⟨H', q', fun K => ?_⟩
    have e' := e' K
    rw [← e1] at e'
    have hlt : (k : Int) + 1 ≤ 100 := by omega
    rw [r_law_JobsBodies_0]
    simp (disch := first | with_reducible rfl | assumption | omega | rfl | (simp only [go_sem]; first | done | omega)) only [go_sem, ↓reduceIte, reduceCtorEq, Nat.reduceEqDiff, Nat.reduceAdd, Nat.reduceSub, Nat.reduceMul, Nat.reduceDiv, Nat.reduceMod, Nat.reduceLeDiff, Nat.reduceLT, Nat.reduceBEq, Int.reduceEq, Int.reduceBEq, Int.reduceBNe, Int.reduceLT, Int.reduceLE, Int.reduceAdd, Int.reduceSub, Int.reduceNeg, Int.reduceToNat, Int.reducePow, Nat.reducePow, Int.reduceMul, Int.reduceDiv, ↓s_law_JobsBodies_b0, hlt, ↓enterK_eq m1, enterK_eq m1, ↓enterK_eq m2, enterK_eq m2]
    exact e'
theorem q_JobsBodies (body : ByteArray) (prio : Int) (H : AHeap) (ok : Ok H) : ∃ H', CC F.law_JobsBodies [.string body, .int .i64 prio] H = some (.bool true, H') := by
  have kn := k_known H ok
  by_cases h1 : (15 : Int) < ((bl body).length : Int)
  · refine any_of (H1 := H) (d_law_JobsBodies _ _ H ?_)
    simp (disch := first | with_reducible rfl | assumption | omega | rfl | (simp only [go_sem]; first | done | omega)) only [go_sem, ↓reduceIte, reduceCtorEq, Nat.reduceEqDiff, Nat.reduceAdd, Nat.reduceSub, Nat.reduceMul, Nat.reduceDiv, Nat.reduceMod, Nat.reduceLeDiff, Nat.reduceLT, Nat.reduceBEq, Int.reduceEq, Int.reduceBEq, Int.reduceBNe, Int.reduceLT, Int.reduceLE, Int.reduceAdd, Int.reduceSub, Int.reduceNeg, Int.reduceToNat, Int.reducePow, Nat.reducePow, Int.reduceMul, Int.reduceDiv, ↓s_law_JobsBodies, h1, ↓enterK_eq kn, enterK_eq kn]
  by_cases h2 : prio < 0
  · refine any_of (H1 := H) (d_law_JobsBodies _ _ H ?_)
    simp (disch := first | with_reducible rfl | assumption | omega | rfl | (simp only [go_sem]; first | done | omega)) only [go_sem, ↓reduceIte, reduceCtorEq, Nat.reduceEqDiff, Nat.reduceAdd, Nat.reduceSub, Nat.reduceMul, Nat.reduceDiv, Nat.reduceMod, Nat.reduceLeDiff, Nat.reduceLT, Nat.reduceBEq, Int.reduceEq, Int.reduceBEq, Int.reduceBNe, Int.reduceLT, Int.reduceLE, Int.reduceAdd, Int.reduceSub, Int.reduceNeg, Int.reduceToNat, Int.reducePow, Nat.reducePow, Int.reduceMul, Int.reduceDiv, ↓s_law_JobsBodies, h1, h2, ↓enterK_eq kn, enterK_eq kn]
  by_cases h3 : 9 < prio
  · refine any_of (H1 := H) (d_law_JobsBodies _ _ H ?_)
    simp (disch := first | with_reducible rfl | assumption | omega | rfl | (simp only [go_sem]; first | done | omega)) only [go_sem, ↓reduceIte, reduceCtorEq, Nat.reduceEqDiff, Nat.reduceAdd, Nat.reduceSub, Nat.reduceMul, Nat.reduceDiv, Nat.reduceMod, Nat.reduceLeDiff, Nat.reduceLT, Nat.reduceBEq, Int.reduceEq, Int.reduceBEq, Int.reduceBNe, Int.reduceLT, Int.reduceLE, Int.reduceAdd, Int.reduceSub, Int.reduceNeg, Int.reduceToNat, Int.reducePow, Nat.reducePow, Int.reduceMul, Int.reduceDiv, ↓s_law_JobsBodies, h1, h2, h3, ↓enterK_eq kn, enterK_eq kn]
  obtain ⟨bq, bm, bk, H0, m0, r0, i0, s0, new0⟩ := q_QNew 100 H (by decide)
  have q0 : QS H0 bq bm bk [] 100 0 0 := ⟨ok.fr s0, r0, i0⟩
  obtain ⟨H1, m1, q1, u1⟩ := q0.puts (by decide) prio body (by unfold putBad; rw [if_neg (by omega), if_neg (by omega)])
  have m1 : CC F.law_puts [.pointer (some ⟨bq, 0, none⟩), .int .i64 prio, .string body, .int .i64 1, .int .i64 0] H0 = some (.bool true, H1) := m1
  have q1 : QS H1 bq bm bk [oneJ prio body ((0 : Nat) : Int)] 100 1 0 := q1
  obtain ⟨H2, q2, e2⟩ := l_bodies bq bm bk prio body 100 0 H1 rfl q1
  have e2 : ∀ K : K, l_law_JobsBodies_0 (.string body) (.int .i64 prio) (.pointer (some ⟨bq, 0, none⟩)) (.int .i64 1) H1 (blkK [0, 1, 5] 0 K) = K .normal [(0, .string body), (1, .int .i64 prio), (5, .pointer (some ⟨bq, 0, none⟩))] H2 := e2
  have m3 : CC F.law_gets [.pointer (some ⟨bq, 0, none⟩), .int .i64 1, .agg #[.int .i64 1, .int .i64 prio, .string body, .int .i64 3, .int .i64 100, .int .i64 0, .int .i64 0], .int .i64 0] H2 = some (.bool true, H2) := q2.gets 1 (oneJ prio body 100) rfl
  have kn2 := k_known H2 q2.ok
  refine any_of (H1 := H2) (d_law_JobsBodies _ _ H ?_)
  simp (disch := first | with_reducible rfl | assumption | omega | rfl | (simp only [go_sem]; first | done | omega)) only [go_sem, ↓reduceIte, reduceCtorEq, Nat.reduceEqDiff, Nat.reduceAdd, Nat.reduceSub, Nat.reduceMul, Nat.reduceDiv, Nat.reduceMod, Nat.reduceLeDiff, Nat.reduceLT, Nat.reduceBEq, Int.reduceEq, Int.reduceBEq, Int.reduceBNe, Int.reduceLT, Int.reduceLE, Int.reduceAdd, Int.reduceSub, Int.reduceNeg, Int.reduceToNat, Int.reducePow, Nat.reducePow, Int.reduceMul, Int.reduceDiv, ↓s_law_JobsBodies, h1, h2, h3, ↓enterK_eq m0, enterK_eq m0, ↓enterK_eq m1, enterK_eq m1, e2, ↓enterK_eq m3, enterK_eq m3, ↓enterK_eq kn2, enterK_eq kn2]

theorem run_JobsBodies (W : World) (body : ByteArray) (_ : (bl body).length ≤ 140737488351232) (prio : Int) (_ : (Lit.int .i64 prio).wf = true) : ∃ k H', dCall Tryd.prog prims1 hints k F.law_JobsBodies [.string body, .int .i64 prio] (absHeap2 W) = some (.bool true, H') := by
  obtain ⟨H', h⟩ := q_JobsBodies body prio (absHeap2 W) (fun _ => Nat.zero_lt_one)
  obtain ⟨k, h⟩ := D_run h
  exact ⟨k, _, h⟩

end Go.Proofs.YtmiinbhnfojnbaaDoor

/-
  The law JobsBodies: for every input it returns true, and its input reads as it did; and its card.
  Conditions: none. By an AI agent.
-/
namespace Go.Proofs.YtmiinbhnfojnbaaDoor.jobsBodies
open Go Go.ChangeShapes Go.WideShapes Go.ChangeAt Go.RowKit Go.Shelf Go.Lib
open Go.ChangeMaps (open_string shut_string)
set_option linter.unusedVariables false
theorem own : ownKnob Tryd.prog.godebug = none := by kernel_rfl
theorem laidOut : laidOutB Tryd.prog = true := by kernel_rfl
theorem glob (W : World) (hsh : W.ShapedOpen Tryd.prog) (hl : laidMetH Tryd.prog Rows.jobsBodiesRow.laid W) : Eng.Glob W.heap.size W := fun g hg => by
  rw [MakeChecks.laidMetH_plain _ _ _ (by kernel_rfl)] at hl
  simp only [Eng.globs, List.mem_cons, List.not_mem_nil, or_false] at hg
  rcases hg with rfl
  · obtain ⟨m, hm⟩ := Go.Proofs.cell_of_shapedOpen_int (g := 0) (zero := #[.int .i64 0]) (t := 3) hsh (of_decide_eq_true (by kernel_rfl)) (by kernel_rfl) rfl (by kernel_rfl) (by kernel_rfl) Tryd.underlying3
    obtain ⟨cs, e, fr, h1, _, _⟩ := Eng.cell_abs hm
    rw [Eng.cell_cellO] at hm
    exact ⟨(Array.getElem?_eq_some_iff.1 h1).1, m, hm⟩
set_option maxRecDepth 100000 in
theorem lifted (os : Os) (started : os.Started) (H : Type) (enc : TypeId × Value → H) :
    ReturnsInHanded {} Tryd.checked os 3 .any (fun w args => (Rows.jobsBodiesSpec.pre enc Tryd.prog Tryd.f3 [] false w args ∧ laidMetH Tryd.prog Rows.jobsBodiesRow.laid w) ∧ sizedMet enc Tryd.prog Tryd.f3 (OpenSpec.ofChange Rows.jobsBodiesSpec) false w args)
      (Rows.jobsBodiesSpec.post enc Tryd.prog Tryd.f3 false true false false) := by
  refine Eng.wrapX (C := Tryd.checked) (X := fun w _ => laidMetH Tryd.prog Rows.jobsBodiesRow.laid w) (fun _ _ _ hh h => h.of_heap hh) own started (by kernel_rfl) Tryd.func3
    (ChangeSpec.witness_shaped (enc := enc) (C := Tryd.checked) (os := os) (X := fun w _ => laidMetH Tryd.prog Rows.jobsBodiesRow.laid w) false (World.laidAll Tryd.prog os Rows.jobsBodiesRow.laid) #[.string ByteArray.empty, .int .i64 0] 8 (World.laidAll_os _ _ _)
      (World.shaped_of_ZipB (by kernel_rfl) (by kernel_rfl)) (by kernel_rfl) (by kernel_rfl) (by kernel_rfl)
      (by rw [MakeChecks.laidMetH_plain _ _ _ (by kernel_rfl)]; exact laidMet_laidAll _ (by kernel_rfl) (by kernel_rfl))) ?_
  intro W base args ds gs before hval0 hW hsz0 hsh hlx
  have hsz : (DataW.weightsEach Tryd.prog (Tryd.f3.params.toList ++ Rows.jobsBodiesSpec.plain.varTypes Tryd.prog) (ds ++ gs)).all (· ≤ reachBytes) = true := hsz0
  have hval : ∀ (j : Nat) t v, Tryd.f3.params[j]? = some t → args[j]? = some v → Value.okWide Tryd.prog W .any base t v := hval0
  have hW' := hW
  obtain ⟨p, q, hA0, hV, rfl, hfz, hnd⟩ := hW
  have hA : DataW.TrodAll enc Tryd.prog W 0 (fun _ => true) true Tryd.f3.params.toList args.toList ds p := hA0
  rw [Tryd.params3] at hA hval hsz
  obtain ⟨v0, vs0, d0, ds0, p0, q0, hargs, rfl, rfl, h0, r0⟩ := trodAll_cons hA
  obtain ⟨v1, vs1, d1, ds1, p1, q1, rfl, rfl, rfl, h1, r1⟩ := trodAll_cons r0
  obtain ⟨rfl, rfl, rfl⟩ := trodAll_nil r1
  obtain rfl : args = #[v0, v1] := by cases args; simp_all
  obtain ⟨rfl, rfl⟩ := trodVars_none hV
  obtain ⟨a0, rfl, rfl, rfl, y0⟩ := open_string Tryd.underlying9 (hval 0 9 v0 rfl rfl) h0
  have w0 : (Eng.bl a0).length ≤ 140737488351232 := sized_string hsz (j := 0) (t := 9) rfl rfl
  obtain ⟨a1, rfl, rfl, rfl, w1⟩ := open_int Tryd.underlying3 (hval 1 3 v1 rfl rfl) h1
  refine (Eng.law_calls2 (args := #[.string a0, .int .i64 a1]) prims1_ok mixed (glob W hsh hlx) (run_JobsBodies W a0 w0 a1 w1)).mono fun e W' ⟨he, bel⟩ => ?_
  subst he
  exact ⟨_, rfl, _, _, _, [], _, [], hW', trodAll_mk1 (shut_bool Tryd.underlying4 _), (trodAll_cons_mk (shut_string Tryd.underlying9 y0) (trodAll_cons_mk (shut_int Tryd.underlying3 w1) trodAll_mk0)), rfl, bel.frame _, fun h => by cases h⟩

theorem over : Rows.jobsBodiesRow.holds Tryd.pinned (OpenSpec.ofChange Rows.jobsBodiesSpec) :=
  OpenClaim.holds_of_wide 3 Tryd.f3 rfl rfl rfl rfl rfl rfl rfl ⟨rfl, rfl, rfl, rfl, rfl⟩ rfl rfl rfl rfl rfl (by kernel_rfl) Tryd.func3 (by kernel_rfl)
    (of_decide_eq_true (by kernel_rfl)) (by unfold Func.isWrapper; first | (rw [if_pos (by decide +kernel)]; kernel_rfl) | (rw [if_neg (by decide +kernel)]; exact ⟨rfl, rfl⟩))
    (fun os started H enc _ => lifted os started H enc)
theorem proved : Rows.JobsBodiesCardSaid :=
  Claim7.holds_tied_plain_at .later [] [.data, .pinned] true (true, "bd39f77b9b94eb43ac845b1c392a0cb432a3a9eb164094a21eb9e07866ad1c13") true over (fun _ h => by cases h) (by kernel_rfl) (fun _ h => by cases h) jobsBodies_row_tie rfl ⟨rfl, rfl⟩ (by kernel_rfl) rfl
    (fun f fn hf hfn => by
      obtain rfl : f = 3 := Option.some.inj ((show Tryd.prog.funcNamed "ticketline/ticketlinelaw46.JobsBodies" = some 3 by kernel_rfl).symm.trans hf) |>.symm
      obtain rfl : fn = Tryd.f3 := (Option.some.inj (Tryd.func3.symm.trans hfn)).symm
      exact ⟨by kernel_rfl, fun j t ht => by
        rw [Tryd.params3] at ht
        have hm : t ∈ [9, 3] := by simpa using Array.mem_of_getElem? ht
        have hall : ([9, 3].all fun u => !Tryd.prog.wantsStandIn u) = true := by kernel_rfl
        exact (show Tryd.prog.wantsStandIn t = false by simpa using List.all_eq_true.1 hall t hm)⟩)
    (by kernel_rfl)
#print axioms proved
end Go.Proofs.YtmiinbhnfojnbaaDoor.jobsBodies
namespace Go.Proofs.YtmiinbhnfojnbaaDoor
/-- The card, under a short name, for the claim. -/
theorem jobsBodies_card : Rows.JobsBodiesCardSaid := jobsBodies.proved
end Go.Proofs.YtmiinbhnfojnbaaDoor
