/-
  11 texts in one (merge.py): Ji Jk Jl Jm Jn Jo Jp ShJobsNone DsJobsNone Jq LawJobsNone.
  Conditions: none. By an AI agent.
-/
import Derived.Test.YtmiinbhnfojnbaaDoorLawJobsNoneQ2
import Derived.KernelRfl
import Derived.Test.YtmiinbhnfojnbaaDoorChecked
import Derived.Test.YtmiinbhnfojnbaaDoorRows
import Derived.Test.YtmiinbhnfojnbaaDoorCards
import Derived.Test.YtmiinbhnfojnbaaDoorTie
import Derived.WalkKit
import Derived.ProofKit
import Derived.OpenShut
import Derived.ShutString
import Derived.ChangeOld
import Derived.Below
import Derived.SizedLaws
import Derived.ChangeArms
import Derived.Carry
import Derived.Lay
import Derived.PinnedBridge
import Derived.LaidOnce
import Derived.SevenTiedAt
import Derived.HandedShaped
import Derived.Shelf.Vars
import Derived.Stop.LaidErr

/-
  Chapter 46: New, taken, Take, Finish, Back, Revive: contracts.
  Conditions: none. By an AI agent.
-/
set_option maxRecDepth 10000
set_option linter.unusedSimpArgs false
set_option linter.unusedVariables false
namespace Go.Proofs.YtmiinbhnfojnbaaDoor
open Go Eng
attribute [local congr] bareK_congr' bothK_congr' quietK_congr'

/-! ### New -/
theorem q_QNew (tries : Int) (H : AHeap) (h : 1 ≤ tries ∧ tries ≤ 100) :
    ∃ bq bm bk H', CC F.jobs_New [.int .i64 tries] H = some (.tuple #[.pointer (some ⟨bq, 0, none⟩), .int .i64 0], H') ∧ QR H' bq bm bk [] tries 0 0 ∧ QI [] tries 0 0 ∧ Still H H' ∧ (∀ c, QB H' bq bm bk c → H.n ≤ c) := by
  have h1 : ¬ tries < 1 := by omega
  have h2 : ¬ 100 < tries := by omega
  obtain ⟨H1, hH1⟩ : ∃ H1, H.push (.cells [.slice none 0 0] T.model_Model true) = H1 := ⟨_, rfl⟩
  obtain ⟨s1, n1, f1⟩ := push_blk hH1
  have mm := make_map mapT_keys (H := H1)
  obtain ⟨H2, hH2⟩ : ∃ H2, H1.push (.map []) = H2 := ⟨_, rfl⟩
  rw [hH2] at mm
  obtain ⟨s2, n2, f2⟩ := push_blk hH2
  obtain ⟨H3, hH3⟩ : ∃ H3, H2.push (.cells [.pointer (some ⟨H.n, 0, none⟩), .map (some H1.n), .int .i64 tries, .int .i64 0, .int .i64 0] T.jobs_Queue true) = H3 := ⟨_, rfl⟩
  obtain ⟨s3, n3, f3⟩ := push_blk hH3
  have g1 : H3.f H.n = .cells [.slice none 0 0] T.model_Model true := by rw [(s2.trans s3).f (by omega) fun h => h]; exact f1
  have hmb : ∀ c, MB H3 H.n c → c = H.n := fun c hc => by
    rcases hc with h | ⟨v, hv, hb⟩
    · exact h
    · rw [g1] at hv; cases hv; cases hb
  refine ⟨H2.n, H.n, H1.n, H3, (d_jobs_New _ H (r := (.tuple #[.pointer (some ⟨H2.n, 0, none⟩), .int .i64 0], H3)) ?_).trans (congrArg some (tidy_mem rfl)), ⟨f3, by omega, by omega, ⟨_, g1, by omega, .inl ⟨rfl, rfl⟩, fun h => by cases h⟩, ⟨[], [], by rw [s3.f (by omega) fun h => h]; exact f2, trivial, fun _ => rfl⟩, fun h => by have := hmb _ h; omega, fun h => by have := hmb _ h; omega, by omega⟩, ⟨AOk.nil 0, h, by omega, by omega, fun _ h => (by cases h)⟩, (s1.trans s2).trans s3, fun c hc => ?_⟩
  · simp (disch := first | with_reducible rfl | assumption | omega | rfl | (simp only [go_sem]; first | done | omega)) only [go_sem, ↓reduceIte, reduceCtorEq, Nat.reduceEqDiff, Nat.reduceAdd, Nat.reduceSub, Nat.reduceMul, Nat.reduceDiv, Nat.reduceMod, Nat.reduceLeDiff, Nat.reduceLT, Nat.reduceBEq, Int.reduceEq, Int.reduceBEq, Int.reduceBNe, Int.reduceLT, Int.reduceLE, Int.reduceAdd, Int.reduceSub, Int.reduceNeg, Int.reduceToNat, Int.reducePow, Nat.reducePow, Int.reduceMul, Int.reduceDiv, ↓s_jobs_New, h1, h2, hH1, mm, hH3]
  · rcases hc with h | h | h
    · omega
    · omega
    · have := hmb c h; omega

/-! ### taken -/
def takenE (A : List Jb) (who id : Int) : Int :=
  if who < 1 ∨ 1000 < who then 2 else match fnd A id with
    | none => 9
    | some j => if j.state = 2 ∧ j.who = who then 0 else 8
theorem takenE_ok {A : List Jb} {who id : Int} (h : takenE A who id = 0) : ∃ j, fnd A id = some j ∧ j.state = 2 ∧ j.who = who ∧ 1 ≤ who ∧ who ≤ 1000 := by
  unfold takenE at h
  split at h
  · cases h
  · rename_i h1
    split at h
    · cases h
    · rename_i j hj
      split at h
      · rename_i h2; exact ⟨j, hj, h2.1, h2.2, by omega, by omega⟩
      · cases h
set_option maxHeartbeats 1000000 in
theorem q_Qtaken_bad (bq bm bk : Nat) (A : List Jb) (tries last now who id : Int) (H : AHeap) (ok : Ok H) (r : QR H bq bm bk A tries last now) (i : QI A tries last now) (h : takenE A who id ≠ 0) :
    CC F.jobs_Queue_taken [.pointer (some ⟨bq, 0, none⟩), .int .i64 who, .int .i64 id] H = some (.tuple #[.agg #[.int .i64 0, .int .i64 0, .string (mk []), .int .i64 0, .int .i64 0, .int .i64 0, .int .i64 0], .int .i64 (takenE A who id)], H) := by
  obtain ⟨H1, hH1⟩ : ∃ H1, H.push (.cells [.int .i64 0, .int .i64 0, .string (mk []), .int .i64 0, .int .i64 0, .int .i64 0, .int .i64 0] T.api_Job true) = H1 := ⟨_, rfl⟩
  obtain ⟨s1, n1, f1⟩ := push_blk hH1
  have r1 := r.still s1
  have m0 := r1.q_none
  obtain ⟨H2, hH2⟩ : ∃ H2, H1.set H.n (.cells [.int .i64 0, .int .i64 0, .string (mk []), .int .i64 0, .int .i64 0, .int .i64 0, .int .i64 0] T.api_Job true) = H2 := ⟨_, rfl⟩
  obtain ⟨s2, n2, f2, _⟩ := set_blk hH2
  have m1 := q_QGet bq bm bk A tries last now id H1 (ok.fr s1) r1 i
  unfold takenE at h ⊢
  by_cases h1 : who < 1
  · rw [if_pos (.inl h1)]
    refine pure_of (H' := H2) ?_ (d_jobs_Queue_taken _ _ _ H) rfl (s1.then s2 fun b hb h => by omega)
    simp (disch := first | with_reducible rfl | assumption | omega | rfl | (simp only [go_sem]; first | done | omega)) only [go_sem, ↓reduceIte, reduceCtorEq, Nat.reduceEqDiff, Nat.reduceAdd, Nat.reduceSub, Nat.reduceMul, Nat.reduceDiv, Nat.reduceMod, Nat.reduceLeDiff, Nat.reduceLT, Nat.reduceBEq, Int.reduceEq, Int.reduceBEq, Int.reduceBNe, Int.reduceLT, Int.reduceLE, Int.reduceAdd, Int.reduceSub, Int.reduceNeg, Int.reduceToNat, Int.reducePow, Nat.reducePow, Int.reduceMul, Int.reduceDiv, ↓s_jobs_Queue_taken, hH1, ↓enterK_eq m0, enterK_eq m0, h1, f1, hH2, f2, xload_job]
  by_cases h2 : 1000 < who
  · rw [if_pos (.inr h2)]
    refine pure_of (H' := H2) ?_ (d_jobs_Queue_taken _ _ _ H) rfl (s1.then s2 fun b hb h => by omega)
    simp (disch := first | with_reducible rfl | assumption | omega | rfl | (simp only [go_sem]; first | done | omega)) only [go_sem, ↓reduceIte, reduceCtorEq, Nat.reduceEqDiff, Nat.reduceAdd, Nat.reduceSub, Nat.reduceMul, Nat.reduceDiv, Nat.reduceMod, Nat.reduceLeDiff, Nat.reduceLT, Nat.reduceBEq, Int.reduceEq, Int.reduceBEq, Int.reduceBNe, Int.reduceLT, Int.reduceLE, Int.reduceAdd, Int.reduceSub, Int.reduceNeg, Int.reduceToNat, Int.reducePow, Nat.reducePow, Int.reduceMul, Int.reduceDiv, ↓s_jobs_Queue_taken, hH1, ↓enterK_eq m0, enterK_eq m0, h1, h2, f1, hH2, f2, xload_job]
  rw [if_neg (by omega)] at h ⊢
  obtain ⟨H3, hH3⟩ : ∃ H3, H1.push (.cells [.int .i64 0, .int .i64 0, .string (mk []), .int .i64 0, .int .i64 0, .int .i64 0, .int .i64 0] T.api_Job true) = H3 := ⟨_, rfl⟩
  obtain ⟨s3, n3, f3⟩ := push_blk hH3
  rcases fnd_or (A := A) id with hf | ⟨j, hf⟩
  · rw [hf] at m1 h ⊢
    dsimp only
    have m1 : CC F.jobs_Queue_Get [.pointer (some ⟨bq, 0, none⟩), .int .i64 id] H1 = some (.tuple #[.agg #[.int .i64 0, .int .i64 0, .string (mk []), .int .i64 0, .int .i64 0, .int .i64 0, .int .i64 0], .int .i64 9], H1) := m1
    obtain ⟨H4, hH4⟩ : ∃ H4, H3.set H1.n (.cells [.int .i64 0, .int .i64 0, .string (mk []), .int .i64 0, .int .i64 0, .int .i64 0, .int .i64 0] T.api_Job true) = H4 := ⟨_, rfl⟩
    obtain ⟨s4, n4, f4, _⟩ := set_blk hH4
    have g4 : H4.f H.n = .cells [.int .i64 0, .int .i64 0, .string (mk []), .int .i64 0, .int .i64 0, .int .i64 0, .int .i64 0] T.api_Job true := by rw [s4.f (by omega) (by omega), s3.f (by omega) fun h => h]; exact f1
    obtain ⟨H5, hH5⟩ : ∃ H5, H4.set H.n (.cells [.int .i64 0, .int .i64 0, .string (mk []), .int .i64 0, .int .i64 0, .int .i64 0, .int .i64 0] T.api_Job true) = H5 := ⟨_, rfl⟩
    obtain ⟨s5, n5, f5, _⟩ := set_blk hH5
    refine pure_of (H' := H5) ?_ (d_jobs_Queue_taken _ _ _ H) rfl (((s1.trans s3).then s4 fun b hb h => by omega).then s5 fun b hb h => by omega)
    simp (disch := first | with_reducible rfl | assumption | omega | rfl | (simp only [go_sem]; first | done | omega)) only [go_sem, ↓reduceIte, reduceCtorEq, Nat.reduceEqDiff, Nat.reduceAdd, Nat.reduceSub, Nat.reduceMul, Nat.reduceDiv, Nat.reduceMod, Nat.reduceLeDiff, Nat.reduceLT, Nat.reduceBEq, Int.reduceEq, Int.reduceBEq, Int.reduceBNe, Int.reduceLT, Int.reduceLE, Int.reduceAdd, Int.reduceSub, Int.reduceNeg, Int.reduceToNat, Int.reducePow, Nat.reducePow, Int.reduceMul, Int.reduceDiv, ↓s_jobs_Queue_taken, hH1, ↓enterK_eq m0, enterK_eq m0, h1, h2, ↓enterK_eq m1, enterK_eq m1, hH3, f3, hH4, g4, hH5, f5, xload_job]
  · rw [hf] at m1 h ⊢
    dsimp only at h ⊢
    have m1 : CC F.jobs_Queue_Get [.pointer (some ⟨bq, 0, none⟩), .int .i64 id] H1 = some (.tuple #[.agg #[.int .i64 j.id, .int .i64 j.prio, .string j.body, .int .i64 j.state, .int .i64 j.tries, .int .i64 j.who, .int .i64 j.til], .int .i64 0], H1) := m1
    have hb : ¬ (j.state = 2 ∧ j.who = who) := fun hc => h (by rw [if_pos hc])
    rw [if_neg hb]
    obtain ⟨H4, hH4⟩ : ∃ H4, H3.set H1.n (.cells [.int .i64 j.id, .int .i64 j.prio, .string j.body, .int .i64 j.state, .int .i64 j.tries, .int .i64 j.who, .int .i64 j.til] T.api_Job true) = H4 := ⟨_, rfl⟩
    obtain ⟨s4, n4, f4, _⟩ := set_blk hH4
    have g4 : H4.f H.n = .cells [.int .i64 0, .int .i64 0, .string (mk []), .int .i64 0, .int .i64 0, .int .i64 0, .int .i64 0] T.api_Job true := by rw [s4.f (by omega) (by omega), s3.f (by omega) fun h => h]; exact f1
    obtain ⟨H5, hH5⟩ : ∃ H5, H4.set H.n (.cells [.int .i64 0, .int .i64 0, .string (mk []), .int .i64 0, .int .i64 0, .int .i64 0, .int .i64 0] T.api_Job true) = H5 := ⟨_, rfl⟩
    obtain ⟨s5, n5, f5, _⟩ := set_blk hH5
    refine pure_of (H' := H5) ?_ (d_jobs_Queue_taken _ _ _ H) rfl (((s1.trans s3).then s4 fun b hb h => by omega).then s5 fun b hb h => by omega)
    by_cases c1 : j.state = 2
    · have c2 : ¬ j.who = who := fun hc => hb ⟨c1, hc⟩
      simp (disch := first | with_reducible rfl | assumption | omega | rfl | (simp only [go_sem]; first | done | omega)) only [go_sem, ↓reduceIte, reduceCtorEq, Nat.reduceEqDiff, Nat.reduceAdd, Nat.reduceSub, Nat.reduceMul, Nat.reduceDiv, Nat.reduceMod, Nat.reduceLeDiff, Nat.reduceLT, Nat.reduceBEq, Int.reduceEq, Int.reduceBEq, Int.reduceBNe, Int.reduceLT, Int.reduceLE, Int.reduceAdd, Int.reduceSub, Int.reduceNeg, Int.reduceToNat, Int.reducePow, Nat.reducePow, Int.reduceMul, Int.reduceDiv, ↓s_jobs_Queue_taken, hH1, ↓enterK_eq m0, enterK_eq m0, h1, h2, ↓enterK_eq m1, enterK_eq m1, hH3, f3, hH4, f4, eq_true c1, c2, g4, hH5, f5, xload_job]
    · simp (disch := first | with_reducible rfl | assumption | omega | rfl | (simp only [go_sem]; first | done | omega)) only [go_sem, ↓reduceIte, reduceCtorEq, Nat.reduceEqDiff, Nat.reduceAdd, Nat.reduceSub, Nat.reduceMul, Nat.reduceDiv, Nat.reduceMod, Nat.reduceLeDiff, Nat.reduceLT, Nat.reduceBEq, Int.reduceEq, Int.reduceBEq, Int.reduceBNe, Int.reduceLT, Int.reduceLE, Int.reduceAdd, Int.reduceSub, Int.reduceNeg, Int.reduceToNat, Int.reducePow, Nat.reducePow, Int.reduceMul, Int.reduceDiv, ↓s_jobs_Queue_taken, hH1, ↓enterK_eq m0, enterK_eq m0, h1, h2, ↓enterK_eq m1, enterK_eq m1, hH3, f3, hH4, f4, c1, g4, hH5, f5, xload_job]
set_option maxHeartbeats 1000000 in
theorem q_Qtaken (bq bm bk : Nat) (A : List Jb) (tries last now who id : Int) (j : Jb) (H : AHeap) (ok : Ok H) (r : QR H bq bm bk A tries last now) (i : QI A tries last now) (hf : fnd A id = some j) (hs : j.state = 2) (hw : j.who = who) (h1 : 1 ≤ who) (h2 : who ≤ 1000) :
    CC F.jobs_Queue_taken [.pointer (some ⟨bq, 0, none⟩), .int .i64 who, .int .i64 id] H = some (.tuple #[.agg #[.int .i64 j.id, .int .i64 j.prio, .string j.body, .int .i64 j.state, .int .i64 j.tries, .int .i64 j.who, .int .i64 j.til], .int .i64 0], H) := by
  obtain ⟨H1, hH1⟩ : ∃ H1, H.push (.cells [.int .i64 0, .int .i64 0, .string (mk []), .int .i64 0, .int .i64 0, .int .i64 0, .int .i64 0] T.api_Job true) = H1 := ⟨_, rfl⟩
  obtain ⟨s1, n1, f1⟩ := push_blk hH1
  have r1 := r.still s1
  have m0 := r1.q_none
  have m1 := q_QGet bq bm bk A tries last now id H1 (ok.fr s1) r1 i
  rw [hf] at m1
  have m1 : CC F.jobs_Queue_Get [.pointer (some ⟨bq, 0, none⟩), .int .i64 id] H1 = some (.tuple #[.agg #[.int .i64 j.id, .int .i64 j.prio, .string j.body, .int .i64 j.state, .int .i64 j.tries, .int .i64 j.who, .int .i64 j.til], .int .i64 0], H1) := m1
  have h1' : ¬ who < 1 := by omega
  have h2' : ¬ 1000 < who := by omega
  obtain ⟨H3, hH3⟩ : ∃ H3, H1.push (.cells [.int .i64 0, .int .i64 0, .string (mk []), .int .i64 0, .int .i64 0, .int .i64 0, .int .i64 0] T.api_Job true) = H3 := ⟨_, rfl⟩
  obtain ⟨s3, n3, f3⟩ := push_blk hH3
  obtain ⟨H4, hH4⟩ : ∃ H4, H3.set H1.n (.cells [.int .i64 j.id, .int .i64 j.prio, .string j.body, .int .i64 j.state, .int .i64 j.tries, .int .i64 j.who, .int .i64 j.til] T.api_Job true) = H4 := ⟨_, rfl⟩
  obtain ⟨s4, n4, f4, _⟩ := set_blk hH4
  have g4 : H4.f H.n = .cells [.int .i64 0, .int .i64 0, .string (mk []), .int .i64 0, .int .i64 0, .int .i64 0, .int .i64 0] T.api_Job true := by rw [s4.f (by omega) (by omega), s3.f (by omega) fun h => h]; exact f1
  obtain ⟨H5, hH5⟩ : ∃ H5, H4.set H.n (.cells [.int .i64 j.id, .int .i64 j.prio, .string j.body, .int .i64 j.state, .int .i64 j.tries, .int .i64 j.who, .int .i64 j.til] T.api_Job true) = H5 := ⟨_, rfl⟩
  obtain ⟨s5, n5, f5, _⟩ := set_blk hH5
  refine pure_of (H' := H5) ?_ (d_jobs_Queue_taken _ _ _ H) rfl (((s1.trans s3).then s4 fun b hb h => by omega).then s5 fun b hb h => by omega)
  simp (disch := first | with_reducible rfl | assumption | omega | rfl | (simp only [go_sem]; first | done | omega)) only [go_sem, ↓reduceIte, reduceCtorEq, Nat.reduceEqDiff, Nat.reduceAdd, Nat.reduceSub, Nat.reduceMul, Nat.reduceDiv, Nat.reduceMod, Nat.reduceLeDiff, Nat.reduceLT, Nat.reduceBEq, Int.reduceEq, Int.reduceBEq, Int.reduceBNe, Int.reduceLT, Int.reduceLE, Int.reduceAdd, Int.reduceSub, Int.reduceNeg, Int.reduceToNat, Int.reducePow, Nat.reducePow, Int.reduceMul, Int.reduceDiv, ↓s_jobs_Queue_taken, hH1, ↓enterK_eq m0, enterK_eq m0, h1', h2', ↓enterK_eq m1, enterK_eq m1, hH3, f3, hH4, f4, eq_true hs, eq_true hw, g4, hH5, f5, xload_job]
theorem q_Qtaken0 (p : Value) (who id : Int) (H : AHeap) (hq : NQ H p) : CC F.jobs_Queue_taken [p, .int .i64 who, .int .i64 id] H = some (.tuple #[.agg #[.int .i64 0, .int .i64 0, .string (mk []), .int .i64 0, .int .i64 0, .int .i64 0, .int .i64 0], .int .i64 1], H) := by
  obtain ⟨H1, hH1⟩ : ∃ H1, H.push (.cells [.int .i64 0, .int .i64 0, .string (mk []), .int .i64 0, .int .i64 0, .int .i64 0, .int .i64 0] T.api_Job true) = H1 := ⟨_, rfl⟩
  obtain ⟨s1, n1, f1⟩ := push_blk hH1
  have m0 := (hq.still s1).none
  obtain ⟨H2, hH2⟩ : ∃ H2, H1.set H.n (.cells [.int .i64 0, .int .i64 0, .string (mk []), .int .i64 0, .int .i64 0, .int .i64 0, .int .i64 0] T.api_Job true) = H2 := ⟨_, rfl⟩
  obtain ⟨s2, n2, f2, _⟩ := set_blk hH2
  refine pure_of (H' := H2) ?_ (d_jobs_Queue_taken _ _ _ H) rfl (s1.then s2 fun b hb h => by omega)
  simp (disch := first | with_reducible rfl | assumption | omega | rfl | (simp only [go_sem]; first | done | omega)) only [go_sem, ↓reduceIte, reduceCtorEq, Nat.reduceEqDiff, Nat.reduceAdd, Nat.reduceSub, Nat.reduceMul, Nat.reduceDiv, Nat.reduceMod, Nat.reduceLeDiff, Nat.reduceLT, Nat.reduceBEq, Int.reduceEq, Int.reduceBEq, Int.reduceBNe, Int.reduceLT, Int.reduceLE, Int.reduceAdd, Int.reduceSub, Int.reduceNeg, Int.reduceToNat, Int.reducePow, Nat.reducePow, Int.reduceMul, Int.reduceDiv, ↓s_jobs_Queue_taken, hH1, ↓enterK_eq m0, enterK_eq m0, f1, hH2, f2, xload_job]

/-! ### Finish -/
/-- A call that ends with an error of taken. -/
theorem q_QFinish_err (p : Value) (who id e : Int) (he : e ≠ 0) (H : AHeap) (m : CC F.jobs_Queue_taken [p, .int .i64 who, .int .i64 id] H = some (.tuple #[.agg #[.int .i64 0, .int .i64 0, .string (mk []), .int .i64 0, .int .i64 0, .int .i64 0, .int .i64 0], .int .i64 e], H)) : CC F.jobs_Queue_Finish [p, .int .i64 who, .int .i64 id] H = some (.int .i64 e, H) := by
  obtain ⟨H1, hH1⟩ : ∃ H1, H.push (.cells [.int .i64 0, .int .i64 0, .string (mk []), .int .i64 0, .int .i64 0, .int .i64 0, .int .i64 0] T.api_Job true) = H1 := ⟨_, rfl⟩
  obtain ⟨s1, n1, f1⟩ := push_blk hH1
  obtain ⟨H2, hH2⟩ : ∃ H2, H1.set H.n (.cells [.int .i64 0, .int .i64 0, .string (mk []), .int .i64 0, .int .i64 0, .int .i64 0, .int .i64 0] T.api_Job true) = H2 := ⟨_, rfl⟩
  obtain ⟨s2, n2, f2, _⟩ := set_blk hH2
  refine pure_of (H' := H2) ?_ (d_jobs_Queue_Finish _ _ _ H) rfl (s1.then s2 fun b hb h => by omega)
  simp (disch := first | with_reducible rfl | assumption | omega | rfl | (simp only [go_sem]; first | done | omega)) only [go_sem, ↓reduceIte, reduceCtorEq, Nat.reduceEqDiff, Nat.reduceAdd, Nat.reduceSub, Nat.reduceMul, Nat.reduceDiv, Nat.reduceMod, Nat.reduceLeDiff, Nat.reduceLT, Nat.reduceBEq, Int.reduceEq, Int.reduceBEq, Int.reduceBNe, Int.reduceLT, Int.reduceLE, Int.reduceAdd, Int.reduceSub, Int.reduceNeg, Int.reduceToNat, Int.reducePow, Nat.reducePow, Int.reduceMul, Int.reduceDiv, ↓s_jobs_Queue_Finish, ↓enterK_eq m, enterK_eq m, hH1, f1, hH2, he]
theorem q_QBack_err (p : Value) (who id e : Int) (he : e ≠ 0) (H : AHeap) (m : CC F.jobs_Queue_taken [p, .int .i64 who, .int .i64 id] H = some (.tuple #[.agg #[.int .i64 0, .int .i64 0, .string (mk []), .int .i64 0, .int .i64 0, .int .i64 0, .int .i64 0], .int .i64 e], H)) : CC F.jobs_Queue_Back [p, .int .i64 who, .int .i64 id] H = some (.int .i64 e, H) := by
  obtain ⟨H1, hH1⟩ : ∃ H1, H.push (.cells [.int .i64 0, .int .i64 0, .string (mk []), .int .i64 0, .int .i64 0, .int .i64 0, .int .i64 0] T.api_Job true) = H1 := ⟨_, rfl⟩
  obtain ⟨s1, n1, f1⟩ := push_blk hH1
  obtain ⟨H2, hH2⟩ : ∃ H2, H1.set H.n (.cells [.int .i64 0, .int .i64 0, .string (mk []), .int .i64 0, .int .i64 0, .int .i64 0, .int .i64 0] T.api_Job true) = H2 := ⟨_, rfl⟩
  obtain ⟨s2, n2, f2, _⟩ := set_blk hH2
  refine pure_of (H' := H2) ?_ (d_jobs_Queue_Back _ _ _ H) rfl (s1.then s2 fun b hb h => by omega)
  simp (disch := first | with_reducible rfl | assumption | omega | rfl | (simp only [go_sem]; first | done | omega)) only [go_sem, ↓reduceIte, reduceCtorEq, Nat.reduceEqDiff, Nat.reduceAdd, Nat.reduceSub, Nat.reduceMul, Nat.reduceDiv, Nat.reduceMod, Nat.reduceLeDiff, Nat.reduceLT, Nat.reduceBEq, Int.reduceEq, Int.reduceBEq, Int.reduceBNe, Int.reduceLT, Int.reduceLE, Int.reduceAdd, Int.reduceSub, Int.reduceNeg, Int.reduceToNat, Int.reducePow, Nat.reducePow, Int.reduceMul, Int.reduceDiv, ↓s_jobs_Queue_Back, ↓enterK_eq m, enterK_eq m, hH1, f1, hH2, he]
set_option maxHeartbeats 1000000 in
theorem q_QFinish (bq bm bk : Nat) (A : List Jb) (tries last now who id : Int) (H : AHeap) (ok : Ok H) (r : QR H bq bm bk A tries last now) (i : QI A tries last now) (h : takenE A who id = 0) :
    ∃ H', CC F.jobs_Queue_Finish [.pointer (some ⟨bq, 0, none⟩), .int .i64 who, .int .i64 id] H = some (.int .i64 0, H') ∧ QR H' bq bm bk (delJ A id) tries last now ∧ UpQ H bq bm bk H' := by
  obtain ⟨j, hf, hs, hw, h1, h2⟩ := takenE_ok h
  obtain ⟨hj, hid⟩ := fnd_some hf
  have m1 := q_Qtaken bq bm bk A tries last now who id j H ok r i hf hs hw h1 h2
  obtain ⟨H1, hH1⟩ : ∃ H1, H.push (.cells [.int .i64 0, .int .i64 0, .string (mk []), .int .i64 0, .int .i64 0, .int .i64 0, .int .i64 0] T.api_Job true) = H1 := ⟨_, rfl⟩
  obtain ⟨s1, n1, f1⟩ := push_blk hH1
  obtain ⟨H2, hH2⟩ : ∃ H2, H1.set H.n (.cells [.int .i64 j.id, .int .i64 j.prio, .string j.body, .int .i64 j.state, .int .i64 j.tries, .int .i64 j.who, .int .i64 j.til] T.api_Job true) = H2 := ⟨_, rfl⟩
  obtain ⟨s2, n2, f2, _⟩ := set_blk hH2
  have st : Still H H2 := s1.then s2 fun b hb h => by omega
  have r2 := r.still st
  have fq := r2.f
  unfold qcells at fq
  obtain ⟨ents, es, e1, e2, e3⟩ := r2.keys
  obtain ⟨v, hl, hv⟩ := look_some mapT_keys e1 e2 (k := id) (a := keyJ j) (by rw [e3, hf]; rfl) false
  subst hv
  have hl : xlookup Tryd.prog T.map_int_string (.map (some bk)) (.int .i64 id) false H2 = some (.string (keyJ j)) := hl
  obtain ⟨H3, g1, g2, g3⟩ := q_delM bm (mapJ A) (keyJ j) H2 (ok.fr st) r2.mdl i.a.srt (by rw [len_mapJ]; have := i.len; omega)
  rw [getJ i.a hj] at g1
  rw [map_del i.a hj, hid] at g2
  have fq3 : H3.f bq = .cells [.pointer (some ⟨bm, 0, none⟩), .map (some bk), .int .i64 tries, .int .i64 last, .int .i64 now] T.jobs_Queue true := by rw [g3.fr.f r2.lt r2.nq]; exact fq
  have nq3 : ¬ MB H3 bm bq := fun h => by rcases g3.mb _ h with h | h; exact r2.nq h; have := r2.lt; omega
  have nk3 : ¬ MB H3 bm bk := fun h => by rcases g3.mb _ h with h | h; exact r2.nk h; have := r2.klt; omega
  have fk3 : H3.f bk = .map ents := by rw [g3.fr.f r2.klt r2.nk]; exact e1
  have dl := del_map mapT_keys fk3 e2 id [T.int]
  obtain ⟨H4, hH4⟩ : ∃ H4, H3.set bk (.map (mdel ents ((kInt .i64).kv id))) = H4 := ⟨_, rfl⟩
  rw [hH4] at dl
  obtain ⟨s4, n4, f4, v4⟩ := set_blk hH4
  have hm4 := mb_keep g2 s4 fun c hc h => nk3 (h ▸ hc)
  have n23 := g3.fr.n
  have rq : QR H4 bq bm bk (delJ A id) tries last now := by
    refine ⟨by rw [s4.f (by have := r2.lt; omega) r.qk]; exact fq3, by have := r2.lt; omega, by have := r2.klt; omega, hm4.1, ⟨_, Eng.delE es id, f4, e2.del (k := id), fun k => ?_⟩, fun h => nq3 (hm4.2 _ h), fun h => nk3 (hm4.2 _ h), r.qk⟩
    rw [lkp_del, e3]
    by_cases hk : id = k
    · rw [if_pos hk, ← hk]
      rcases fnd_or (A := delJ A id) id with h | ⟨o, h⟩
      · rw [h]; rfl
      · obtain ⟨h1, h2⟩ := fnd_some h
        exact absurd h2 (mem_delJ.1 h1).2
    · rw [if_neg hk]
      rcases fnd_or (A := A) k with h | ⟨o, h⟩
      · rw [h]
        rcases fnd_or (A := delJ A id) k with h' | ⟨o, h'⟩
        · rw [h']
        · obtain ⟨h1, h2⟩ := fnd_some h'
          exact absurd h2 (fnd_none h o (mem_delJ.1 h1).1)
      · obtain ⟨h1, h2⟩ := fnd_some h
        have := fnd_mem (i.a.del id).inc (mem_delJ.2 ⟨h1, fun e => hk (by rw [← e, h2])⟩)
        rw [h2] at this
        rw [h, this]
  have uq : UpQ H bq bm bk H4 := by
    refine UpQ.pre r st ⟨(g3.fr.mono (S' := QB H2 bq bm bk) fun _ _ h => .inr (.inr h)).then s4 fun b hb h => .inr (.inl h), fun c hc => ?_⟩
    exact g3.mb _ (hm4.2 c hc)
  refine ⟨H4, (d_jobs_Queue_Finish _ _ _ H (r := (.int .i64 0, H4)) ?_).trans (congrArg some (tidy_turned r.klt (ok bk) (by rw [v4]; have := st.clk; have := g3.fr.clk; omega))), rq, uq⟩
  have dl' : xbuiltin Tryd.prog .delete [T.map_int_string, T.int] [.map (some bk), .int .i64 id] H3 = some (.val (.tuple #[]) H4) := by
    show both (xdelete Tryd.prog [T.map_int_string, T.int] (.map (some bk)) (.int .i64 id) H3) = _
    have dl : xdelete Tryd.prog [T.map_int_string, T.int] (.map (some bk)) (.int .i64 id) H3 = some (.tuple #[], H4) := dl
    rw [dl]; rfl
  simp (disch := first | with_reducible rfl | assumption | omega | rfl | (simp only [go_sem]; first | done | omega)) only [go_sem, ↓reduceIte, reduceCtorEq, Nat.reduceEqDiff, Nat.reduceAdd, Nat.reduceSub, Nat.reduceMul, Nat.reduceDiv, Nat.reduceMod, Nat.reduceLeDiff, Nat.reduceLT, Nat.reduceBEq, Int.reduceEq, Int.reduceBEq, Int.reduceBNe, Int.reduceLT, Int.reduceLE, Int.reduceAdd, Int.reduceSub, Int.reduceNeg, Int.reduceToNat, Int.reducePow, Nat.reducePow, Int.reduceMul, Int.reduceDiv, ↓s_jobs_Queue_Finish, ↓enterK_eq m1, enterK_eq m1, hH1, f1, hH2, fq, hl, ↓enterK_eq g1, enterK_eq g1, fq3, dl']

end Go.Proofs.YtmiinbhnfojnbaaDoor

/-
  Chapter 46: back, Back, Revive, Take: contracts.
  Conditions: none. By an AI agent.
-/
set_option maxRecDepth 10000
set_option linter.unusedSimpArgs false
set_option linter.unusedVariables false
namespace Go.Proofs.YtmiinbhnfojnbaaDoor
open Go Eng
attribute [local congr] bareK_congr' bothK_congr' quietK_congr'

theorem fnd_rep_ne {j : Jb} {k : Int} (h : k ≠ j.id) : ∀ (A : List Jb), fnd (repJ A j) k = fnd A k
  | [] => rfl
  | a :: A => by
    have ih := fnd_rep_ne h A
    unfold fnd repJ at ih ⊢
    rw [List.map_cons, List.find?_cons, List.find?_cons]
    by_cases h1 : a.id = j.id
    · rw [if_pos h1, decide_eq_false (fun e => h e.symm), decide_eq_false (fun e => h (by rw [← e, h1]))]
      exact ih
    · rw [if_neg h1]
      by_cases h2 : a.id = k
      · rw [decide_eq_true h2]
      · rw [decide_eq_false h2]
        exact ih
theorem setJ_rep {A : List Jb} {j : Jb} (h : (fnd A j.id).isSome = true) : setJ A j = repJ A j := by unfold setJ; rw [if_pos h]
theorem QI.rep {A : List Jb} {tries last now : Int} (i : QI A tries last now) {j : Jb} (hj : JOk j) (h : (fnd A j.id).isSome = true) (hw : j.state = 1 → j.tries < tries) : QI (repJ A j) tries last now :=
  ⟨i.a.rep hj h, i.t, i.l, i.n, fun a ha hs => by
    rcases (mem_repJ i.a.inc h).1 ha with rfl | h1
    · exact hw hs
    · exact i.w a h1.1 hs⟩
/-- set, of a job that is there. -/
theorem q_qrep (bq bm bk : Nat) (A : List Jb) (tries last now : Int) (j : Jb) (H : AHeap) (ok : Ok H) (r : QR H bq bm bk A tries last now) (i : QI A tries last now) (hj : JOk j) (h : (fnd A j.id).isSome = true) :
    ∃ H', CC F.jobs_Queue_set [.pointer (some ⟨bq, 0, none⟩), .agg #[.int .i64 j.id, .int .i64 j.prio, .string j.body, .int .i64 j.state, .int .i64 j.tries, .int .i64 j.who, .int .i64 j.til]] H = some (.int .i64 0, H') ∧ QR H' bq bm bk (repJ A j) tries last now ∧ UpQ H bq bm bk H' := by
  have := q_qset bq bm bk A tries last now j H ok r i.a (by have := i.len; omega) hj (by rw [setJ_rep h]; exact i.a.rep hj h)
  rw [setJ_rep h] at this
  exact this

/-! ### back -/
def backJ (tries : Int) (j : Jb) : Jb := ⟨j.id, j.prio, j.body, if tries ≤ j.tries then 3 else 1, j.tries, 0, 0⟩
theorem backJ_ok {tries : Int} {j : Jb} (h : JOk j) : JOk (backJ tries j) :=
  ⟨h.id, h.prio, h.body, by show 1 ≤ (if _ then (3 : Int) else 1) ∧ (if _ then (3 : Int) else 1) ≤ 3; split <;> omega, h.tries, by show (0 : Int) ≤ 0 ∧ (0 : Int) ≤ 1000; omega, by show (0 : Int) ≤ 0 ∧ (0 : Int) ≤ 1099511627776; omega, fun _ => rfl⟩
theorem backJ_w {tries : Int} {j : Jb} (h : (backJ tries j).state = 1) : (backJ tries j).tries < tries := by
  unfold backJ at h ⊢
  dsimp only at h ⊢
  split at h
  · cases h
  · omega
theorem Ok.set {H H1 : AHeap} {b : Nat} {k : Blk} (ok : Ok H) (h : H.set b k = H1) : Ok H1 := ok.fr (set_blk h).1
theorem q_Qback (bq bm bk : Nat) (A : List Jb) (tries last now : Int) (j : Jb) (H : AHeap) (ok : Ok H) (r : QR H bq bm bk A tries last now) (i : QI A tries last now) (hj : JOk j) (h : (fnd A j.id).isSome = true) :
    ∃ H', CC F.jobs_Queue_back [.pointer (some ⟨bq, 0, none⟩), .agg #[.int .i64 j.id, .int .i64 j.prio, .string j.body, .int .i64 j.state, .int .i64 j.tries, .int .i64 j.who, .int .i64 j.til]] H = some (.int .i64 0, H') ∧ QR H' bq bm bk (repJ A (backJ tries j)) tries last now ∧ QI (repJ A (backJ tries j)) tries last now ∧ UpQ H bq bm bk H' := by
  obtain ⟨H1, hH1⟩ : ∃ H1, H.push (.cells [.int .i64 j.id, .int .i64 j.prio, .string j.body, .int .i64 j.state, .int .i64 j.tries, .int .i64 j.who, .int .i64 j.til] T.api_Job true) = H1 := ⟨_, rfl⟩
  obtain ⟨s1, n1, f1⟩ := push_blk hH1
  obtain ⟨H2, hH2⟩ : ∃ H2, H1.set H.n (.cells [.int .i64 j.id, .int .i64 j.prio, .string j.body, .int .i64 1, .int .i64 j.tries, .int .i64 j.who, .int .i64 j.til] T.api_Job true) = H2 := ⟨_, rfl⟩
  obtain ⟨s2, n2, f2, _⟩ := set_blk hH2
  obtain ⟨H3, hH3⟩ : ∃ H3, H2.set H.n (.cells [.int .i64 j.id, .int .i64 j.prio, .string j.body, .int .i64 1, .int .i64 j.tries, .int .i64 0, .int .i64 j.til] T.api_Job true) = H3 := ⟨_, rfl⟩
  obtain ⟨s3, n3, f3, _⟩ := set_blk hH3
  obtain ⟨H4, hH4⟩ : ∃ H4, H3.set H.n (.cells [.int .i64 j.id, .int .i64 j.prio, .string j.body, .int .i64 1, .int .i64 j.tries, .int .i64 0, .int .i64 0] T.api_Job true) = H4 := ⟨_, rfl⟩
  obtain ⟨s4, n4, f4, _⟩ := set_blk hH4
  have st4 : Still H H4 := ((s1.then s2 fun b hb h => by omega).then s3 fun b hb h => by omega).then s4 fun b hb h => by omega
  have r4 := r.still st4
  have fq := r4.f
  unfold qcells at fq
  have hid : (fnd A (backJ tries j).id).isSome = true := h
  have hi : QI (repJ A (backJ tries j)) tries last now := i.rep (backJ_ok hj) hid backJ_w
  by_cases c : tries ≤ j.tries
  · obtain ⟨H5, hH5⟩ : ∃ H5, H4.set H.n (.cells [.int .i64 j.id, .int .i64 j.prio, .string j.body, .int .i64 3, .int .i64 j.tries, .int .i64 0, .int .i64 0] T.api_Job true) = H5 := ⟨_, rfl⟩
    obtain ⟨s5, n5, f5, _⟩ := set_blk hH5
    have st5 : Still H H5 := st4.then s5 fun b hb h => by omega
    have r5 := r.still st5
    obtain ⟨H6, m6, r6, u6⟩ := q_qrep bq bm bk A tries last now (backJ tries j) H5 (ok.fr st5) r5 i (backJ_ok hj) hid
    have e : backJ tries j = ⟨j.id, j.prio, j.body, 3, j.tries, 0, 0⟩ := by unfold backJ; rw [if_pos c]
    have m6 : CC F.jobs_Queue_set [.pointer (some ⟨bq, 0, none⟩), .agg #[.int .i64 j.id, .int .i64 j.prio, .string j.body, .int .i64 3, .int .i64 j.tries, .int .i64 0, .int .i64 0]] H5 = some (.int .i64 0, H6) := by rw [e] at m6; exact m6
    obtain ⟨H7, t1, t2, t3⟩ := QR.tidy (v := .int .i64 0) ok r r6 (UpQ.pre r st5 u6)
    refine ⟨H7, (d_jobs_Queue_back _ _ H (r := (.int .i64 0, H6)) ?_).trans (congrArg some t1), t2, hi, t3⟩
    simp (disch := first | with_reducible rfl | assumption | omega | rfl | (simp only [go_sem]; first | done | omega)) only [go_sem, ↓reduceIte, reduceCtorEq, Nat.reduceEqDiff, Nat.reduceAdd, Nat.reduceSub, Nat.reduceMul, Nat.reduceDiv, Nat.reduceMod, Nat.reduceLeDiff, Nat.reduceLT, Nat.reduceBEq, Int.reduceEq, Int.reduceBEq, Int.reduceBNe, Int.reduceLT, Int.reduceLE, Int.reduceAdd, Int.reduceSub, Int.reduceNeg, Int.reduceToNat, Int.reducePow, Nat.reducePow, Int.reduceMul, Int.reduceDiv, ↓s_jobs_Queue_back, hH1, f1, hH2, f2, hH3, f3, hH4, f4, fq, c, hH5, f5, ↓enterK_eq m6, enterK_eq m6]
  · obtain ⟨H6, m6, r6, u6⟩ := q_qrep bq bm bk A tries last now (backJ tries j) H4 (ok.fr st4) r4 i (backJ_ok hj) hid
    have e : backJ tries j = ⟨j.id, j.prio, j.body, 1, j.tries, 0, 0⟩ := by unfold backJ; rw [if_neg c]
    have m6 : CC F.jobs_Queue_set [.pointer (some ⟨bq, 0, none⟩), .agg #[.int .i64 j.id, .int .i64 j.prio, .string j.body, .int .i64 1, .int .i64 j.tries, .int .i64 0, .int .i64 0]] H4 = some (.int .i64 0, H6) := by rw [e] at m6; exact m6
    obtain ⟨H7, t1, t2, t3⟩ := QR.tidy (v := .int .i64 0) ok r r6 (UpQ.pre r st4 u6)
    refine ⟨H7, (d_jobs_Queue_back _ _ H (r := (.int .i64 0, H6)) ?_).trans (congrArg some t1), t2, hi, t3⟩
    simp (disch := first | with_reducible rfl | assumption | omega | rfl | (simp only [go_sem]; first | done | omega)) only [go_sem, ↓reduceIte, reduceCtorEq, Nat.reduceEqDiff, Nat.reduceAdd, Nat.reduceSub, Nat.reduceMul, Nat.reduceDiv, Nat.reduceMod, Nat.reduceLeDiff, Nat.reduceLT, Nat.reduceBEq, Int.reduceEq, Int.reduceBEq, Int.reduceBNe, Int.reduceLT, Int.reduceLE, Int.reduceAdd, Int.reduceSub, Int.reduceNeg, Int.reduceToNat, Int.reducePow, Nat.reducePow, Int.reduceMul, Int.reduceDiv, ↓s_jobs_Queue_back, hH1, f1, hH2, f2, hH3, f3, hH4, f4, fq, c, ↓enterK_eq m6, enterK_eq m6]
theorem q_QBack (bq bm bk : Nat) (A : List Jb) (tries last now who id : Int) (j : Jb) (H : AHeap) (ok : Ok H) (r : QR H bq bm bk A tries last now) (i : QI A tries last now) (h : takenE A who id = 0) (hf : fnd A id = some j) :
    ∃ H', CC F.jobs_Queue_Back [.pointer (some ⟨bq, 0, none⟩), .int .i64 who, .int .i64 id] H = some (.int .i64 0, H') ∧ QR H' bq bm bk (repJ A (backJ tries j)) tries last now ∧ QI (repJ A (backJ tries j)) tries last now ∧ UpQ H bq bm bk H' := by
  obtain ⟨j', hf', hs, hw, h1, h2⟩ := takenE_ok h
  rw [hf] at hf'
  cases hf'
  obtain ⟨hj, hid⟩ := fnd_some hf
  have m1 := q_Qtaken bq bm bk A tries last now who id j H ok r i hf hs hw h1 h2
  obtain ⟨H1, hH1⟩ : ∃ H1, H.push (.cells [.int .i64 0, .int .i64 0, .string (mk []), .int .i64 0, .int .i64 0, .int .i64 0, .int .i64 0] T.api_Job true) = H1 := ⟨_, rfl⟩
  obtain ⟨s1, n1, f1⟩ := push_blk hH1
  obtain ⟨H2, hH2⟩ : ∃ H2, H1.set H.n (.cells [.int .i64 j.id, .int .i64 j.prio, .string j.body, .int .i64 j.state, .int .i64 j.tries, .int .i64 j.who, .int .i64 j.til] T.api_Job true) = H2 := ⟨_, rfl⟩
  obtain ⟨s2, n2, f2, _⟩ := set_blk hH2
  have st : Still H H2 := s1.then s2 fun b hb h => by omega
  obtain ⟨H3, m3, r3, i3, u3⟩ := q_Qback bq bm bk A tries last now j H2 (ok.fr st) (r.still st) i (i.a.ok j hj) (by rw [hid, hf]; rfl)
  obtain ⟨H4, t1, t2, t3⟩ := QR.tidy (v := .int .i64 0) ok r r3 (UpQ.pre r st u3)
  refine ⟨H4, (d_jobs_Queue_Back _ _ _ H (r := (.int .i64 0, H3)) ?_).trans (congrArg some t1), t2, i3, t3⟩
  simp (disch := first | with_reducible rfl | assumption | omega | rfl | (simp only [go_sem]; first | done | omega)) only [go_sem, ↓reduceIte, reduceCtorEq, Nat.reduceEqDiff, Nat.reduceAdd, Nat.reduceSub, Nat.reduceMul, Nat.reduceDiv, Nat.reduceMod, Nat.reduceLeDiff, Nat.reduceLT, Nat.reduceBEq, Int.reduceEq, Int.reduceBEq, Int.reduceBNe, Int.reduceLT, Int.reduceLE, Int.reduceAdd, Int.reduceSub, Int.reduceNeg, Int.reduceToNat, Int.reducePow, Nat.reducePow, Int.reduceMul, Int.reduceDiv, ↓s_jobs_Queue_Back, ↓enterK_eq m1, enterK_eq m1, hH1, f1, hH2, f2, ↓enterK_eq m3, enterK_eq m3]

/-! ### Revive -/
def reviveJ (j : Jb) : Jb := ⟨j.id, j.prio, j.body, 1, 0, j.who, j.til⟩
theorem reviveJ_ok {j : Jb} (h : JOk j) (hs : j.state = 3) : JOk (reviveJ j) :=
  ⟨h.id, h.prio, h.body, by show (1 : Int) ≤ 1 ∧ (1 : Int) ≤ 3; omega, by show (0 : Int) ≤ 0 ∧ (0 : Int) ≤ 100; omega, h.who, h.til, fun _ => h.free (by rw [hs]; decide)⟩
theorem q_QRevive (bq bm bk : Nat) (A : List Jb) (tries last now id : Int) (j : Jb) (H : AHeap) (ok : Ok H) (r : QR H bq bm bk A tries last now) (i : QI A tries last now) (hf : fnd A id = some j) (c : j.state = 3) :
    ∃ H', CC F.jobs_Queue_Revive [.pointer (some ⟨bq, 0, none⟩), .int .i64 id] H = some (.int .i64 0, H') ∧ QR H' bq bm bk (repJ A (reviveJ j)) tries last now ∧ QI (repJ A (reviveJ j)) tries last now ∧ UpQ H bq bm bk H' := by
  have m1 := q_QGet bq bm bk A tries last now id H ok r i
  rw [hf] at m1
  have m1 : CC F.jobs_Queue_Get [.pointer (some ⟨bq, 0, none⟩), .int .i64 id] H = some (.tuple #[.agg #[.int .i64 j.id, .int .i64 j.prio, .string j.body, .int .i64 j.state, .int .i64 j.tries, .int .i64 j.who, .int .i64 j.til], .int .i64 0], H) := m1
  obtain ⟨hj, hid⟩ := fnd_some hf
  have hok := i.a.ok j hj
  obtain ⟨H1, hH1⟩ : ∃ H1, H.push (.cells [.int .i64 0, .int .i64 0, .string (mk []), .int .i64 0, .int .i64 0, .int .i64 0, .int .i64 0] T.api_Job true) = H1 := ⟨_, rfl⟩
  obtain ⟨s1, n1, f1⟩ := push_blk hH1
  obtain ⟨H2, hH2⟩ : ∃ H2, H1.set H.n (.cells [.int .i64 j.id, .int .i64 j.prio, .string j.body, .int .i64 j.state, .int .i64 j.tries, .int .i64 j.who, .int .i64 j.til] T.api_Job true) = H2 := ⟨_, rfl⟩
  obtain ⟨s2, n2, f2, _⟩ := set_blk hH2
  obtain ⟨H3, hH3⟩ : ∃ H3, H2.set H.n (.cells [.int .i64 j.id, .int .i64 j.prio, .string j.body, .int .i64 1, .int .i64 j.tries, .int .i64 j.who, .int .i64 j.til] T.api_Job true) = H3 := ⟨_, rfl⟩
  obtain ⟨s3, n3, f3, _⟩ := set_blk hH3
  obtain ⟨H4, hH4⟩ : ∃ H4, H3.set H.n (.cells [.int .i64 j.id, .int .i64 j.prio, .string j.body, .int .i64 1, .int .i64 0, .int .i64 j.who, .int .i64 j.til] T.api_Job true) = H4 := ⟨_, rfl⟩
  obtain ⟨s4, n4, f4, _⟩ := set_blk hH4
  have st4 : Still H H4 := ((s1.then s2 fun b hb h => by omega).then s3 fun b hb h => by omega).then s4 fun b hb h => by omega
  have hsome : (fnd A (reviveJ j).id).isSome = true := by show (fnd A j.id).isSome = true; rw [hid, hf]; rfl
  obtain ⟨H6, m6, r6, u6⟩ := q_qrep bq bm bk A tries last now (reviveJ j) H4 (ok.fr st4) (r.still st4) i (reviveJ_ok hok c) hsome
  have m6 : CC F.jobs_Queue_set [.pointer (some ⟨bq, 0, none⟩), .agg #[.int .i64 j.id, .int .i64 j.prio, .string j.body, .int .i64 1, .int .i64 0, .int .i64 j.who, .int .i64 j.til]] H4 = some (.int .i64 0, H6) := m6
  obtain ⟨H7, t1, t2, t3⟩ := QR.tidy (v := .int .i64 0) ok r r6 (UpQ.pre r st4 u6)
  refine ⟨H7, (d_jobs_Queue_Revive _ _ H (r := (.int .i64 0, H6)) ?_).trans (congrArg some t1), t2, i.rep (reviveJ_ok hok c) hsome (fun _ => by show (0 : Int) < tries; have := i.t; omega), t3⟩
  simp (disch := first | with_reducible rfl | assumption | omega | rfl | (simp only [go_sem]; first | done | omega)) only [go_sem, ↓reduceIte, reduceCtorEq, Nat.reduceEqDiff, Nat.reduceAdd, Nat.reduceSub, Nat.reduceMul, Nat.reduceDiv, Nat.reduceMod, Nat.reduceLeDiff, Nat.reduceLT, Nat.reduceBEq, Int.reduceEq, Int.reduceBEq, Int.reduceBNe, Int.reduceLT, Int.reduceLE, Int.reduceAdd, Int.reduceSub, Int.reduceNeg, Int.reduceToNat, Int.reducePow, Nat.reducePow, Int.reduceMul, Int.reduceDiv, ↓s_jobs_Queue_Revive, ↓enterK_eq m1, enterK_eq m1, hH1, f1, hH2, f2, eq_true c, hH3, f3, hH4, f4, ↓enterK_eq m6, enterK_eq m6]
theorem q_QRevive0 (p : Value) (id : Int) (H : AHeap) (hq : NQ H p) : CC F.jobs_Queue_Revive [p, .int .i64 id] H = some (.int .i64 1, H) := by
  have m1 := q_QGet0 p id H hq
  obtain ⟨H1, hH1⟩ : ∃ H1, H.push (.cells [.int .i64 0, .int .i64 0, .string (mk []), .int .i64 0, .int .i64 0, .int .i64 0, .int .i64 0] T.api_Job true) = H1 := ⟨_, rfl⟩
  obtain ⟨s1, n1, f1⟩ := push_blk hH1
  obtain ⟨H2, hH2⟩ : ∃ H2, H1.set H.n (.cells [.int .i64 0, .int .i64 0, .string (mk []), .int .i64 0, .int .i64 0, .int .i64 0, .int .i64 0] T.api_Job true) = H2 := ⟨_, rfl⟩
  obtain ⟨s2, n2, f2, _⟩ := set_blk hH2
  refine pure_of (H' := H2) ?_ (d_jobs_Queue_Revive _ _ H) rfl (s1.then s2 fun b hb h => by omega)
  simp (disch := first | with_reducible rfl | assumption | omega | rfl | (simp only [go_sem]; first | done | omega)) only [go_sem, ↓reduceIte, reduceCtorEq, Nat.reduceEqDiff, Nat.reduceAdd, Nat.reduceSub, Nat.reduceMul, Nat.reduceDiv, Nat.reduceMod, Nat.reduceLeDiff, Nat.reduceLT, Nat.reduceBEq, Int.reduceEq, Int.reduceBEq, Int.reduceBNe, Int.reduceLT, Int.reduceLE, Int.reduceAdd, Int.reduceSub, Int.reduceNeg, Int.reduceToNat, Int.reducePow, Nat.reducePow, Int.reduceMul, Int.reduceDiv, ↓s_jobs_Queue_Revive, ↓enterK_eq m1, enterK_eq m1, hH1, f1, hH2]

end Go.Proofs.YtmiinbhnfojnbaaDoor

/-
  Chapter 46: Take, Pass: contracts.
  Conditions: none. By an AI agent.
-/
set_option maxRecDepth 10000
set_option linter.unusedSimpArgs false
set_option linter.unusedVariables false
namespace Go.Proofs.YtmiinbhnfojnbaaDoor
open Go Eng
attribute [local congr] bareK_congr' bothK_congr' quietK_congr'

/-! ### Take -/
/-- The jobs that wait, in order. -/
def waitJ (A : List Jb) : List Jb := (srtJ A).filter fun j => decide (j.state = 1)
def takeE (A : List Jb) (now who n : Int) : Int := if who < 1 ∨ 1000 < who ∨ n < 1 ∨ 1099511627776 - now < n then 2 else if waitJ A = [] then 9 else 0
def takeJ (j : Jb) (now who n : Int) : Jb := ⟨j.id, j.prio, j.body, 2, j.tries + 1, who, now + n⟩
theorem wait_mem {A : List Jb} {j : Jb} {t : List Jb} (h : waitJ A = j :: t) : j ∈ A ∧ j.state = 1 := by
  have : j ∈ waitJ A := by rw [h]; simp
  unfold waitJ at this
  rw [List.mem_filter, mem_srt] at this
  simpa using this
theorem rd_job {H : AHeap} {v : Value} {l : List Jb} (r : Rd EJb H v l) {i : Nat} (hi : i < l.length) : ∃ b o, ixS 7 v (.int .i64 (i : Int)) = some (.pointer (some ⟨b, o, none⟩)) ∧ b < H.n ∧ cutB (H.f b) o 7 = some l[i].l ∧ blockOf v = some b := by
  obtain ⟨b, o, h1, h2, h3, h4⟩ := r.ix (q := .i64) hi
  exact ⟨b, o, h1, h2, h3, h4⟩
set_option maxHeartbeats 1000000 in
theorem q_QTake_bad (bq bm bk : Nat) (A : List Jb) (tries last now who n : Int) (H : AHeap) (ok : Ok H) (r : QR H bq bm bk A tries last now) (i : QI A tries last now) (h : takeE A now who n ≠ 0) :
    CC F.jobs_Queue_Take [.pointer (some ⟨bq, 0, none⟩), .int .i64 who, .int .i64 n] H = some (.tuple #[.agg #[.int .i64 0, .int .i64 0, .string (mk []), .int .i64 0, .int .i64 0, .int .i64 0, .int .i64 0], .int .i64 (takeE A now who n)], H) := by
  have hnow := i.n
  obtain ⟨H1, hH1⟩ : ∃ H1, H.push (.cells [.int .i64 0, .int .i64 0, .string (mk []), .int .i64 0, .int .i64 0, .int .i64 0, .int .i64 0] T.api_Job true) = H1 := ⟨_, rfl⟩
  obtain ⟨s1, n1, f1⟩ := push_blk hH1
  have r1 := r.still s1
  have m0 := r1.q_none
  have fq := r1.f
  unfold qcells at fq
  obtain ⟨H2, hH2⟩ : ∃ H2, H1.set H.n (.cells [.int .i64 0, .int .i64 0, .string (mk []), .int .i64 0, .int .i64 0, .int .i64 0, .int .i64 0] T.api_Job true) = H2 := ⟨_, rfl⟩
  obtain ⟨s2, n2, f2, _⟩ := set_blk hH2
  unfold takeE at h ⊢
  by_cases h1 : who < 1
  · rw [if_pos (.inl h1)]
    refine pure_of (H' := H2) ?_ (d_jobs_Queue_Take _ _ _ H) rfl (s1.then s2 fun b hb h => by omega)
    simp (disch := first | with_reducible rfl | assumption | omega | rfl | (simp only [go_sem]; first | done | omega)) only [go_sem, ↓reduceIte, reduceCtorEq, Nat.reduceEqDiff, Nat.reduceAdd, Nat.reduceSub, Nat.reduceMul, Nat.reduceDiv, Nat.reduceMod, Nat.reduceLeDiff, Nat.reduceLT, Nat.reduceBEq, Int.reduceEq, Int.reduceBEq, Int.reduceBNe, Int.reduceLT, Int.reduceLE, Int.reduceAdd, Int.reduceSub, Int.reduceNeg, Int.reduceToNat, Int.reducePow, Nat.reducePow, Int.reduceMul, Int.reduceDiv, ↓s_jobs_Queue_Take, hH1, ↓enterK_eq m0, enterK_eq m0, h1, f1, hH2, f2, xload_job]
  by_cases h2 : 1000 < who
  · rw [if_pos (.inr (.inl h2))]
    refine pure_of (H' := H2) ?_ (d_jobs_Queue_Take _ _ _ H) rfl (s1.then s2 fun b hb h => by omega)
    simp (disch := first | with_reducible rfl | assumption | omega | rfl | (simp only [go_sem]; first | done | omega)) only [go_sem, ↓reduceIte, reduceCtorEq, Nat.reduceEqDiff, Nat.reduceAdd, Nat.reduceSub, Nat.reduceMul, Nat.reduceDiv, Nat.reduceMod, Nat.reduceLeDiff, Nat.reduceLT, Nat.reduceBEq, Int.reduceEq, Int.reduceBEq, Int.reduceBNe, Int.reduceLT, Int.reduceLE, Int.reduceAdd, Int.reduceSub, Int.reduceNeg, Int.reduceToNat, Int.reducePow, Nat.reducePow, Int.reduceMul, Int.reduceDiv, ↓s_jobs_Queue_Take, hH1, ↓enterK_eq m0, enterK_eq m0, h1, h2, f1, hH2, f2, xload_job]
  by_cases h3 : n < 1
  · rw [if_pos (.inr (.inr (.inl h3)))]
    refine pure_of (H' := H2) ?_ (d_jobs_Queue_Take _ _ _ H) rfl (s1.then s2 fun b hb h => by omega)
    simp (disch := first | with_reducible rfl | assumption | omega | rfl | (simp only [go_sem]; first | done | omega)) only [go_sem, ↓reduceIte, reduceCtorEq, Nat.reduceEqDiff, Nat.reduceAdd, Nat.reduceSub, Nat.reduceMul, Nat.reduceDiv, Nat.reduceMod, Nat.reduceLeDiff, Nat.reduceLT, Nat.reduceBEq, Int.reduceEq, Int.reduceBEq, Int.reduceBNe, Int.reduceLT, Int.reduceLE, Int.reduceAdd, Int.reduceSub, Int.reduceNeg, Int.reduceToNat, Int.reducePow, Nat.reducePow, Int.reduceMul, Int.reduceDiv, ↓s_jobs_Queue_Take, hH1, ↓enterK_eq m0, enterK_eq m0, h1, h2, h3, f1, hH2, f2, xload_job]
  by_cases h4 : 1099511627776 - now < n
  · rw [if_pos (.inr (.inr (.inr h4)))]
    refine pure_of (H' := H2) ?_ (d_jobs_Queue_Take _ _ _ H) rfl (s1.then s2 fun b hb h => by omega)
    simp (disch := first | with_reducible rfl | assumption | omega | rfl | (simp only [go_sem]; first | done | omega)) only [go_sem, ↓reduceIte, reduceCtorEq, Nat.reduceEqDiff, Nat.reduceAdd, Nat.reduceSub, Nat.reduceMul, Nat.reduceDiv, Nat.reduceMod, Nat.reduceLeDiff, Nat.reduceLT, Nat.reduceBEq, Int.reduceEq, Int.reduceBEq, Int.reduceBNe, Int.reduceLT, Int.reduceLE, Int.reduceAdd, Int.reduceSub, Int.reduceNeg, Int.reduceToNat, Int.reducePow, Nat.reducePow, Int.reduceMul, Int.reduceDiv, ↓s_jobs_Queue_Take, hH1, ↓enterK_eq m0, enterK_eq m0, h1, h2, h3, fq, h4, f1, hH2, f2, xload_job]
  rw [if_neg (by omega)] at h ⊢
  by_cases h5 : waitJ A = []
  · rw [if_pos h5]
    have mn := q_jnum 1 H1 (by decide) (by decide)
    obtain ⟨H3, hH3⟩ : ∃ H3, H1.push (.cells [.int .i64 1, .int .u64 1, .int .i64 0, .string (mk []), .bool false] T.api_Cell true) = H3 := ⟨_, rfl⟩
    obtain ⟨s3, n3, f3⟩ := push_blk hH3
    have hc : Rd ECl H3 (.slice (some ⟨H1.n, 0, none⟩) 1 2) [numC 1] := (newE (E := ECl) (l := [numC 1]) (e := T.api_Cell) (by omega) f3).1
    obtain ⟨v, H4, m4, so⟩ := q_inS bq bm bk A tries last now 1 (by decide) _ H3 (ok.fr (s1.trans s3)) (r1.still s3) i hc
    have hlen := so.own.rd.lenS
    rw [show ((srtJ A).filter fun j => decide (j.state = 1)) = waitJ A from rfl, h5] at hlen
    have hlen : lenS v = some (.int .i64 0) := hlen
    have g4 : H4.f H.n = .cells [.int .i64 0, .int .i64 0, .string (mk []), .int .i64 0, .int .i64 0, .int .i64 0, .int .i64 0] T.api_Job true := by rw [(s3.trans so.still).f (by omega) fun h => h]; exact f1
    obtain ⟨H5, hH5⟩ : ∃ H5, H4.set H.n (.cells [.int .i64 0, .int .i64 0, .string (mk []), .int .i64 0, .int .i64 0, .int .i64 0, .int .i64 0] T.api_Job true) = H5 := ⟨_, rfl⟩
    obtain ⟨s5, n5, f5, _⟩ := set_blk hH5
    refine pure_of (H' := H5) ?_ (d_jobs_Queue_Take _ _ _ H) rfl (((s1.trans s3).trans so.still).then s5 fun b hb h => by omega)
    simp (disch := first | with_reducible rfl | assumption | omega | rfl | (simp only [go_sem]; first | done | omega)) only [go_sem, ↓reduceIte, reduceCtorEq, Nat.reduceEqDiff, Nat.reduceAdd, Nat.reduceSub, Nat.reduceMul, Nat.reduceDiv, Nat.reduceMod, Nat.reduceLeDiff, Nat.reduceLT, Nat.reduceBEq, Int.reduceEq, Int.reduceBEq, Int.reduceBNe, Int.reduceLT, Int.reduceLE, Int.reduceAdd, Int.reduceSub, Int.reduceNeg, Int.reduceToNat, Int.reducePow, Nat.reducePow, Int.reduceMul, Int.reduceDiv, ↓s_jobs_Queue_Take, hH1, ↓enterK_eq m0, enterK_eq m0, h1, h2, h3, fq, h4, ↓enterK_eq mn, enterK_eq mn, hH3, ↓enterK_eq m4, enterK_eq m4, hlen, g4, hH5, f5, xload_job]
  · rw [if_neg h5] at h
    exact absurd rfl h
theorem takeJ_ok {j : Jb} (h : JOk j) {now who n : Int} (hw : 1 ≤ who ∧ who ≤ 1000) (hn : 1 ≤ n) (h0 : 0 ≤ now) (hb : now + n ≤ 1099511627776) (ht : j.tries < 100) : JOk (takeJ j now who n) :=
  ⟨h.id, h.prio, h.body, by show (1 : Int) ≤ 2 ∧ (2 : Int) ≤ 3; omega, by show 0 ≤ j.tries + 1 ∧ j.tries + 1 ≤ 100; have := h.tries; omega, by show 0 ≤ who ∧ who ≤ 1000; omega, by show 0 ≤ now + n ∧ now + n ≤ 1099511627776; omega, fun h => absurd rfl h⟩
set_option maxHeartbeats 2000000 in
theorem q_QTake (bq bm bk : Nat) (A : List Jb) (tries last now who n : Int) (j : Jb) (t : List Jb) (H : AHeap) (ok : Ok H) (r : QR H bq bm bk A tries last now) (i : QI A tries last now) (h : takeE A now who n = 0) (hj : waitJ A = j :: t) :
    ∃ H', CC F.jobs_Queue_Take [.pointer (some ⟨bq, 0, none⟩), .int .i64 who, .int .i64 n] H = some (.tuple #[.agg ⟨(takeJ j now who n).l⟩, .int .i64 0], H') ∧ QR H' bq bm bk (repJ A (takeJ j now who n)) tries last now ∧ QI (repJ A (takeJ j now who n)) tries last now ∧ UpQ H bq bm bk H' := by
  have hnow := i.n
  have ht := i.t
  have hb : ¬ (who < 1 ∨ 1000 < who ∨ n < 1 ∨ 1099511627776 - now < n) := fun c => by unfold takeE at h; rw [if_pos c] at h; cases h
  have h1 : ¬ who < 1 := by omega
  have h2 : ¬ 1000 < who := by omega
  have h3 : ¬ n < 1 := by omega
  have h4 : ¬ 1099511627776 - now < n := by omega
  obtain ⟨hA, hs⟩ := wait_mem hj
  have hok := i.a.ok j hA
  have hw := i.w j hA hs
  have htr := hok.tries
  have hok' : JOk (takeJ j now who n) := takeJ_ok hok (by omega) (by omega) hnow.1 (by omega) (by omega)
  have hsome : (fnd A (takeJ j now who n).id).isSome = true := by show (fnd A j.id).isSome = true; rw [fnd_mem i.a.inc hA]; rfl
  obtain ⟨H1, hH1⟩ : ∃ H1, H.push (.cells [.int .i64 0, .int .i64 0, .string (mk []), .int .i64 0, .int .i64 0, .int .i64 0, .int .i64 0] T.api_Job true) = H1 := ⟨_, rfl⟩
  obtain ⟨s1, n1, f1⟩ := push_blk hH1
  have r1 := r.still s1
  have m0 := r1.q_none
  have fq := r1.f
  unfold qcells at fq
  have mn := q_jnum 1 H1 (by decide) (by decide)
  obtain ⟨H3, hH3⟩ : ∃ H3, H1.push (.cells [.int .i64 1, .int .u64 1, .int .i64 0, .string (mk []), .bool false] T.api_Cell true) = H3 := ⟨_, rfl⟩
  obtain ⟨s3, n3, f3⟩ := push_blk hH3
  have hc : Rd ECl H3 (.slice (some ⟨H1.n, 0, none⟩) 1 2) [numC 1] := (newE (E := ECl) (l := [numC 1]) (e := T.api_Cell) (by omega) f3).1
  obtain ⟨v, H4, m4, so⟩ := q_inS bq bm bk A tries last now 1 (by decide) _ H3 (ok.fr (s1.trans s3)) (r1.still s3) i hc
  have so : SinceE EJb T.api_Job H3 H4 v (j :: t) := by rw [← hj]; exact so
  have hlen : lenS v = some (.int .i64 ((t.length : Int) + 1)) := so.own.rd.lenS
  have hne : ¬ (t.length : Int) + 1 = 0 := by omega
  obtain ⟨b, o, ix, lb, cb, _⟩ := rd_job so.own.rd (i := 0) (by simp)
  have ix : ixS 7 v (.int .i64 0) = some (.pointer (some ⟨b, o, none⟩)) := ix
  have cb : cutB (H4.f b) o 7 = some [.int .i64 j.id, .int .i64 j.prio, .string j.body, .int .i64 j.state, .int .i64 j.tries, .int .i64 j.who, .int .i64 j.til] := cb
  obtain ⟨H5, hH5⟩ : ∃ H5, H4.push (.cells [.int .i64 0, .int .i64 0, .string (mk []), .int .i64 0, .int .i64 0, .int .i64 0, .int .i64 0] T.api_Job true) = H5 := ⟨_, rfl⟩
  obtain ⟨s5, n5, f5⟩ := push_blk hH5
  obtain ⟨H6, hH6⟩ : ∃ H6, H5.set H4.n (.cells [.int .i64 j.id, .int .i64 j.prio, .string j.body, .int .i64 j.state, .int .i64 j.tries, .int .i64 j.who, .int .i64 j.til] T.api_Job true) = H6 := ⟨_, rfl⟩
  obtain ⟨s6, n6, f6, _⟩ := set_blk hH6
  obtain ⟨H7, hH7⟩ : ∃ H7, H6.set H4.n (.cells [.int .i64 j.id, .int .i64 j.prio, .string j.body, .int .i64 2, .int .i64 j.tries, .int .i64 j.who, .int .i64 j.til] T.api_Job true) = H7 := ⟨_, rfl⟩
  obtain ⟨s7, n7, f7, _⟩ := set_blk hH7
  obtain ⟨H8, hH8⟩ : ∃ H8, H7.set H4.n (.cells [.int .i64 j.id, .int .i64 j.prio, .string j.body, .int .i64 2, .int .i64 j.tries, .int .i64 who, .int .i64 j.til] T.api_Job true) = H8 := ⟨_, rfl⟩
  obtain ⟨s8, n8, f8, _⟩ := set_blk hH8
  obtain ⟨H9, hH9⟩ : ∃ H9, H8.set H4.n (.cells [.int .i64 j.id, .int .i64 j.prio, .string j.body, .int .i64 2, .int .i64 j.tries, .int .i64 who, .int .i64 (now + n)] T.api_Job true) = H9 := ⟨_, rfl⟩
  obtain ⟨s9, n9, f9, _⟩ := set_blk hH9
  obtain ⟨Ha, hHa⟩ : ∃ Ha, H9.set H4.n (.cells [.int .i64 j.id, .int .i64 j.prio, .string j.body, .int .i64 2, .int .i64 (j.tries + 1), .int .i64 who, .int .i64 (now + n)] T.api_Job true) = Ha := ⟨_, rfl⟩
  obtain ⟨sa, na, fa, _⟩ := set_blk hHa
  have n4 := so.still.n
  have st4 : Still H H4 := (s1.trans s3).trans so.still
  have st6 : Still H H6 := (st4.trans s5).then s6 fun b hb h => by omega
  have st : Still H Ha := (((st6.then s7 fun b hb h => by omega).then s8 fun b hb h => by omega).then s9 fun b hb h => by omega).then sa fun b hb h => by omega
  have fq6 : H6.f bq = .cells [.pointer (some ⟨bm, 0, none⟩), .map (some bk), .int .i64 tries, .int .i64 last, .int .i64 now] T.jobs_Queue true := (r.still st6).f
  have hbq := r.lt
  have ck1 : okV (some true) (some bq) H6 H7 H6 H6 = true := okV_some (.inr (s7.ver (by omega) (by omega))) (.inr (Nat.le_refl _))
  have ck2 : okV (some true) (some bq) H7 H8 H6 H6 = true := okV_some (.inr (s8.ver (by omega) (by omega))) (.inr (Nat.le_refl _))
  obtain ⟨Hb, mb, rb, ub⟩ := q_qrep bq bm bk A tries last now (takeJ j now who n) Ha (ok.fr st) (r.still st) i hok' hsome
  have mb : CC F.jobs_Queue_set [.pointer (some ⟨bq, 0, none⟩), .agg #[.int .i64 j.id, .int .i64 j.prio, .string j.body, .int .i64 2, .int .i64 (j.tries + 1), .int .i64 who, .int .i64 (now + n)]] Ha = some (.int .i64 0, Hb) := mb
  have hQ : ∀ c, H.n ≤ c → ¬ QB Ha bq bm bk c := fun c hc h => by have := r.blk (h.still r.mdl st); omega
  have z0 : Ha.f H.n = .cells [.int .i64 0, .int .i64 0, .string (mk []), .int .i64 0, .int .i64 0, .int .i64 0, .int .i64 0] T.api_Job true := by
    rw [sa.f (by omega) (by omega), s9.f (by omega) (by omega), s8.f (by omega) (by omega), s7.f (by omega) (by omega), s6.f (by omega) (by omega), (s3.trans (so.still.trans s5)).f (by omega) fun h => h]; exact f1
  have zb : Hb.f H.n = .cells [.int .i64 0, .int .i64 0, .string (mk []), .int .i64 0, .int .i64 0, .int .i64 0, .int .i64 0] T.api_Job true := by rw [ub.fr.f (by omega) (hQ _ (by omega))]; exact z0
  have fb : Hb.f H4.n = .cells [.int .i64 j.id, .int .i64 j.prio, .string j.body, .int .i64 2, .int .i64 (j.tries + 1), .int .i64 who, .int .i64 (now + n)] T.api_Job true := by rw [ub.fr.f (by omega) (hQ _ st4.n)]; exact fa
  obtain ⟨Hc, hHc⟩ : ∃ Hc, Hb.set H.n (.cells [.int .i64 j.id, .int .i64 j.prio, .string j.body, .int .i64 2, .int .i64 (j.tries + 1), .int .i64 who, .int .i64 (now + n)] T.api_Job true) = Hc := ⟨_, rfl⟩
  obtain ⟨sc, nc, fc, _⟩ := set_blk hHc
  have ub' := UpQ.pre r st ub
  have hQb : ¬ QB Hb bq bm bk H.n := fun h => by
    rcases h with h | h | h
    · omega
    · have := r.klt; omega
    · rcases ub'.mb _ h with h | h
      · have := r.mdl.blk h; omega
      · rcases ub.mb _ ‹_› with h' | h'
        · exact hQ _ (Nat.le_refl _) (.inr (.inr h'))
        · have := st.n; omega
  obtain ⟨uc, rc⟩ := ub'.post rb sc fun c hc => ⟨by omega, by rw [hc]; exact hQb⟩
  obtain ⟨Hd, t1, t2, t3⟩ := QR.tidy (v := .tuple #[.agg ⟨(takeJ j now who n).l⟩, .int .i64 0]) ok r rc uc
  refine ⟨Hd, (d_jobs_Queue_Take _ _ _ H (r := (.tuple #[.agg ⟨(takeJ j now who n).l⟩, .int .i64 0], Hc)) ?_).trans (congrArg some t1), t2, i.rep hok' hsome (fun h => by cases h), t3⟩
  show s_jobs_Queue_Take _ _ _ _ _ _ _ _ _ _ = some (.tuple #[.agg #[.int .i64 j.id, .int .i64 j.prio, .string j.body, .int .i64 2, .int .i64 (j.tries + 1), .int .i64 who, .int .i64 (now + n)], .int .i64 0], Hc)
  simp (disch := first | with_reducible rfl | assumption | omega | rfl | (simp only [go_sem]; first | done | omega)) only [go_sem, ↓reduceIte, reduceCtorEq, Nat.reduceEqDiff, Nat.reduceAdd, Nat.reduceSub, Nat.reduceMul, Nat.reduceDiv, Nat.reduceMod, Nat.reduceLeDiff, Nat.reduceLT, Nat.reduceBEq, Int.reduceEq, Int.reduceBEq, Int.reduceBNe, Int.reduceLT, Int.reduceLE, Int.reduceAdd, Int.reduceSub, Int.reduceNeg, Int.reduceToNat, Int.reducePow, Nat.reducePow, Int.reduceMul, Int.reduceDiv, ↓s_jobs_Queue_Take, hH1, ↓enterK_eq m0, enterK_eq m0, h1, h2, h3, fq, h4, ↓enterK_eq mn, enterK_eq mn, hH3, ↓enterK_eq m4, enterK_eq m4, hlen, hne, ix, cb, hH5, f5, hH6, f6, fq6, hH7, f7, hH8, f8, hH9, f9, hHa, fa, ck1, ck2, ↓enterK_eq mb, enterK_eq mb, zb, fb, hHc, fc, xload_job]
theorem q_QTake0 (p : Value) (who n : Int) (H : AHeap) (hq : NQ H p) : CC F.jobs_Queue_Take [p, .int .i64 who, .int .i64 n] H = some (.tuple #[.agg #[.int .i64 0, .int .i64 0, .string (mk []), .int .i64 0, .int .i64 0, .int .i64 0, .int .i64 0], .int .i64 1], H) := by
  obtain ⟨H1, hH1⟩ : ∃ H1, H.push (.cells [.int .i64 0, .int .i64 0, .string (mk []), .int .i64 0, .int .i64 0, .int .i64 0, .int .i64 0] T.api_Job true) = H1 := ⟨_, rfl⟩
  obtain ⟨s1, n1, f1⟩ := push_blk hH1
  have m0 := (hq.still s1).none
  obtain ⟨H2, hH2⟩ : ∃ H2, H1.set H.n (.cells [.int .i64 0, .int .i64 0, .string (mk []), .int .i64 0, .int .i64 0, .int .i64 0, .int .i64 0] T.api_Job true) = H2 := ⟨_, rfl⟩
  obtain ⟨s2, n2, f2, _⟩ := set_blk hH2
  refine pure_of (H' := H2) ?_ (d_jobs_Queue_Take _ _ _ H) rfl (s1.then s2 fun b hb h => by omega)
  simp (disch := first | with_reducible rfl | assumption | omega | rfl | (simp only [go_sem]; first | done | omega)) only [go_sem, ↓reduceIte, reduceCtorEq, Nat.reduceEqDiff, Nat.reduceAdd, Nat.reduceSub, Nat.reduceMul, Nat.reduceDiv, Nat.reduceMod, Nat.reduceLeDiff, Nat.reduceLT, Nat.reduceBEq, Int.reduceEq, Int.reduceBEq, Int.reduceBNe, Int.reduceLT, Int.reduceLE, Int.reduceAdd, Int.reduceSub, Int.reduceNeg, Int.reduceToNat, Int.reducePow, Nat.reducePow, Int.reduceMul, Int.reduceDiv, ↓s_jobs_Queue_Take, hH1, ↓enterK_eq m0, enterK_eq m0, f1, hH2, f2, xload_job]

end Go.Proofs.YtmiinbhnfojnbaaDoor

/-
  Chapter 46: Pass: contract.
  Conditions: none. By an AI agent.
-/
set_option maxRecDepth 10000
set_option linter.unusedSimpArgs false
set_option linter.unusedVariables false
namespace Go.Proofs.YtmiinbhnfojnbaaDoor
open Go Eng
attribute [local congr] bareK_congr' bothK_congr' quietK_congr'

def dueJ (tick : Int) (a : Jb) : Bool := decide (a.til ≤ tick)
def passJ (A : List Jb) (tries tick : Int) : List Jb := A.map fun a => if a.state = 2 ∧ a.til ≤ tick then backJ tries a else a
theorem while_filter {tick : Int} : ∀ {l : List Jb}, l.Pairwise (fun a b => a.til ≤ b.til) → l.takeWhile (dueJ tick) = l.filter (dueJ tick)
  | [], _ => rfl
  | a :: l, h => by
    obtain ⟨h1, h2⟩ := List.pairwise_cons.1 h
    by_cases hd : dueJ tick a = true
    · rw [List.takeWhile_cons_of_pos hd, List.filter_cons_of_pos hd, while_filter h2]
    · rw [List.takeWhile_cons_of_neg hd, List.filter_cons_of_neg hd]
      symm
      rw [List.filter_eq_nil_iff]
      intro b hb
      have := h1 b hb
      unfold dueJ at hd ⊢
      simp only [decide_eq_true_eq] at hd ⊢
      omega
theorem fold_rep (tries : Int) : ∀ (F A : List Jb), A.Pairwise (fun a b => a.id < b.id) → (∀ j ∈ F, fnd A j.id = some j) → F.Pairwise (fun a b => a.id ≠ b.id) →
    F.foldl (fun A j => repJ A (backJ tries j)) A = A.map fun a => if a ∈ F then backJ tries a else a
  | [], A, _, _, _ => by simp
  | j :: F, A, hA, hF, hp => by
    obtain ⟨h1, h2⟩ := List.pairwise_cons.1 hp
    obtain ⟨hj, _⟩ := fnd_some (hF j (by simp))
    rw [List.foldl_cons, fold_rep tries F (repJ A (backJ tries j)) (inc_ids (ids_rep A _) hA) (fun x hx => by rw [fnd_rep_ne (j := backJ tries j) (fun e => h1 x hx e.symm)]; exact hF x (by simp [hx])) h2]
    unfold repJ
    rw [List.map_map]
    apply List.map_congr_left
    intro a ha
    simp only [Function.comp]
    by_cases e : a.id = j.id
    · have e' : a = j := inc_uniq hA ha hj e
      subst e'
      have hn : backJ tries a ∉ F := fun h => h1 _ h rfl
      rw [if_pos (show a.id = (backJ tries a).id from rfl), if_neg hn, if_pos (by simp)]
    · rw [if_neg (show ¬ a.id = (backJ tries j).id from e)]
      have : a ∈ j :: F ↔ a ∈ F := by
        rw [List.mem_cons]
        exact ⟨fun h => h.resolve_left fun h => e (by rw [h]), .inr⟩
      by_cases hm : a ∈ F
      · rw [if_pos hm, if_pos (this.2 hm)]
      · rw [if_neg hm, if_neg (fun h => hm (this.1 h))]

set_option maxHeartbeats 1000000 in
theorem l_pass (bq bm bk : Nat) (tries last tick : Int) (L : List Jb) (hL : L.length ≤ 1000) (hok : ∀ j ∈ L, JOk j) (v : Value) (H0 : AHeap) (hv : Rd EJb H0 v L) (hoff : ∀ b, blockOf v = some b → ¬ QB H0 bq bm bk b) :
    ∀ (t : List Jb) (i : Nat) (H : AHeap) (A : List Jb), L.drop i = t → Ok H → QR H bq bm bk A tries last tick → QI A tries last tick → UpQ H0 bq bm bk H → (∀ j ∈ t, fnd A j.id = some j) → t.Pairwise (fun a b => a.id ≠ b.id) →
    ∃ H', QR H' bq bm bk ((t.takeWhile (dueJ tick)).foldl (fun A j => repJ A (backJ tries j)) A) tries last tick ∧ QI ((t.takeWhile (dueJ tick)).foldl (fun A j => repJ A (backJ tries j)) A) tries last tick ∧ UpQ H0 bq bm bk H' ∧
      ∀ K : K, l_jobs_Queue_Pass_0 (.pointer (some ⟨bq, 0, none⟩)) (.int .i64 tick) v (.int .i64 (L.length : Int)) (.int .i64 (i : Int)) H (blkK [] 1 K) = K .normal [] H'
  | [], i, H, A, hx, ok, r, qi, u, hf, hp => by
    have h : L.length ≤ i := List.drop_eq_nil_iff.1 hx
    have hlt : ¬ (i : Int) < (L.length : Int) := by omega
    refine ⟨H, r, qi, u, fun K => ?_⟩
    rw [r_jobs_Queue_Pass_0]
    simp (disch := first | with_reducible rfl | assumption | omega | rfl | (simp only [go_sem]; first | done | omega)) only [go_sem, ↓reduceIte, reduceCtorEq, Nat.reduceEqDiff, Nat.reduceAdd, Nat.reduceSub, Nat.reduceMul, Nat.reduceDiv, Nat.reduceMod, Nat.reduceLeDiff, Nat.reduceLT, Nat.reduceBEq, Int.reduceEq, Int.reduceBEq, Int.reduceBNe, Int.reduceLT, Int.reduceLE, Int.reduceAdd, Int.reduceSub, Int.reduceNeg, Int.reduceToNat, Int.reducePow, Nat.reducePow, Int.reduceMul, Int.reduceDiv, ↓s_jobs_Queue_Pass_b0, hlt]
  | j :: t, i, H, A, hx, ok, r, qi, u, hf, hp => by
    obtain ⟨h, hxa, hx'⟩ := drop_cons hx
    have hlt : (i : Int) < (L.length : Int) := by omega
    obtain ⟨hp1, hp2⟩ := List.pairwise_cons.1 hp
    have hjf := hf j (by simp)
    have hj := hok j (by rw [← hxa]; exact List.getElem_mem h)
    have hv1 : Rd EJb H v L := hv.keep u.fr hoff
    obtain ⟨b, o, ix, lb, cb, _⟩ := rd_job hv1 h
    rw [hxa] at cb
    have cb : cutB (H.f b) o 7 = some [.int .i64 j.id, .int .i64 j.prio, .string j.body, .int .i64 j.state, .int .i64 j.tries, .int .i64 j.who, .int .i64 j.til] := cb
    obtain ⟨H1, hH1⟩ : ∃ H1, H.push (.cells [.int .i64 0, .int .i64 0, .string (mk []), .int .i64 0, .int .i64 0, .int .i64 0, .int .i64 0] T.api_Job true) = H1 := ⟨_, rfl⟩
    obtain ⟨s1, n1, f1⟩ := push_blk hH1
    obtain ⟨H2, hH2⟩ : ∃ H2, H1.set H.n (.cells [.int .i64 j.id, .int .i64 j.prio, .string j.body, .int .i64 j.state, .int .i64 j.tries, .int .i64 j.who, .int .i64 j.til] T.api_Job true) = H2 := ⟨_, rfl⟩
    obtain ⟨s2, n2, f2, _⟩ := set_blk hH2
    have st : Still H H2 := s1.then s2 fun b hb h => by omega
    have e1 : ((i : Int) + 1) = ((i + 1 : Nat) : Int) := by omega
    by_cases c : tick < j.til
    · have hd : ¬ dueJ tick j = true := by unfold dueJ; simp only [decide_eq_true_eq]; omega
      refine ⟨H2, ?_, ?_, u.trans (UpQ.of_still r st), fun K => ?_⟩
      · rw [List.takeWhile_cons_of_neg hd]; exact r.still st
      · rw [List.takeWhile_cons_of_neg hd]; exact qi
      · rw [r_jobs_Queue_Pass_0]
        simp (disch := first | with_reducible rfl | assumption | omega | rfl | (simp only [go_sem]; first | done | omega)) only [go_sem, ↓reduceIte, reduceCtorEq, Nat.reduceEqDiff, Nat.reduceAdd, Nat.reduceSub, Nat.reduceMul, Nat.reduceDiv, Nat.reduceMod, Nat.reduceLeDiff, Nat.reduceLT, Nat.reduceBEq, Int.reduceEq, Int.reduceBEq, Int.reduceBNe, Int.reduceLT, Int.reduceLE, Int.reduceAdd, Int.reduceSub, Int.reduceNeg, Int.reduceToNat, Int.reducePow, Nat.reducePow, Int.reduceMul, Int.reduceDiv, ↓s_jobs_Queue_Pass_b0, hlt, ix, cb, hH1, f1, hH2, f2, c]
    · have hd : dueJ tick j = true := by unfold dueJ; simp only [decide_eq_true_eq]; omega
      obtain ⟨H3, m3, r3, i3, u3⟩ := q_Qback bq bm bk A tries last tick j H2 (ok.fr st) (r.still st) qi hj (by rw [hjf]; rfl)
      have u' := u.trans (UpQ.pre r st u3)
      obtain ⟨H', r', i', u'', e'⟩ := l_pass bq bm bk tries last tick L hL hok v H0 hv hoff t (i + 1) H3 (repJ A (backJ tries j)) hx' ((ok.fr st).fr u3.fr) r3 i3 u' (fun x hx => by
        rw [fnd_rep_ne (j := backJ tries j) (fun e => hp1 x hx e.symm)]; exact hf x (by simp [hx])) hp2
      refine ⟨H', by rw [List.takeWhile_cons_of_pos hd]; exact r', by rw [List.takeWhile_cons_of_pos hd]; exact i', u'', fun K => ?_⟩
      have e' := e' K
      rw [← e1] at e'
      rw [r_jobs_Queue_Pass_0]
      simp (disch := first | with_reducible rfl | assumption | omega | rfl | (simp only [go_sem]; first | done | omega)) only [go_sem, ↓reduceIte, reduceCtorEq, Nat.reduceEqDiff, Nat.reduceAdd, Nat.reduceSub, Nat.reduceMul, Nat.reduceDiv, Nat.reduceMod, Nat.reduceLeDiff, Nat.reduceLT, Nat.reduceBEq, Int.reduceEq, Int.reduceBEq, Int.reduceBNe, Int.reduceLT, Int.reduceLE, Int.reduceAdd, Int.reduceSub, Int.reduceNeg, Int.reduceToNat, Int.reducePow, Nat.reducePow, Int.reduceMul, Int.reduceDiv, ↓s_jobs_Queue_Pass_b0, hlt, ix, cb, hH1, f1, hH2, f2, c, ↓enterK_eq m3, enterK_eq m3]
      exact e'

def passE (now tick : Int) : Int := if tick < 0 ∨ 1099511627776 < tick then 2 else if tick < now then 14 else 0
theorem q_QPass_bad (bq bm bk : Nat) (A : List Jb) (tries last now tick : Int) (H : AHeap) (r : QR H bq bm bk A tries last now) (h : passE now tick ≠ 0) :
    CC F.jobs_Queue_Pass [.pointer (some ⟨bq, 0, none⟩), .int .i64 tick] H = some (.int .i64 (passE now tick), H) := by
  have m0 := r.q_none
  have fq := r.f
  unfold qcells at fq
  unfold passE at h ⊢
  by_cases h1 : tick < 0
  · rw [if_pos (.inl h1)]
    apply pure_of _ (d_jobs_Queue_Pass _ _ H) rfl
    rotate_left 2
    · simp (disch := first | with_reducible rfl | assumption | omega | rfl | (simp only [go_sem]; first | done | omega)) only [go_sem, ↓reduceIte, reduceCtorEq, Nat.reduceEqDiff, Nat.reduceAdd, Nat.reduceSub, Nat.reduceMul, Nat.reduceDiv, Nat.reduceMod, Nat.reduceLeDiff, Nat.reduceLT, Nat.reduceBEq, Int.reduceEq, Int.reduceBEq, Int.reduceBNe, Int.reduceLT, Int.reduceLE, Int.reduceAdd, Int.reduceSub, Int.reduceNeg, Int.reduceToNat, Int.reducePow, Nat.reducePow, Int.reduceMul, Int.reduceDiv, ↓s_jobs_Queue_Pass, ↓enterK_eq m0, enterK_eq m0, h1]
      rfl
    · (repeat (first | exact Fr.refl _ | refine Fr.push ?_ _ | refine Fr.set ?_ _ _ (by intro h; first | omega | (simp only [go_sem] at h; omega))))
  by_cases h2 : 1099511627776 < tick
  · rw [if_pos (.inr h2)]
    apply pure_of _ (d_jobs_Queue_Pass _ _ H) rfl
    rotate_left 2
    · simp (disch := first | with_reducible rfl | assumption | omega | rfl | (simp only [go_sem]; first | done | omega)) only [go_sem, ↓reduceIte, reduceCtorEq, Nat.reduceEqDiff, Nat.reduceAdd, Nat.reduceSub, Nat.reduceMul, Nat.reduceDiv, Nat.reduceMod, Nat.reduceLeDiff, Nat.reduceLT, Nat.reduceBEq, Int.reduceEq, Int.reduceBEq, Int.reduceBNe, Int.reduceLT, Int.reduceLE, Int.reduceAdd, Int.reduceSub, Int.reduceNeg, Int.reduceToNat, Int.reducePow, Nat.reducePow, Int.reduceMul, Int.reduceDiv, ↓s_jobs_Queue_Pass, ↓enterK_eq m0, enterK_eq m0, h1, h2]
      rfl
    · (repeat (first | exact Fr.refl _ | refine Fr.push ?_ _ | refine Fr.set ?_ _ _ (by intro h; first | omega | (simp only [go_sem] at h; omega))))
  rw [if_neg (by omega)] at h ⊢
  by_cases h3 : tick < now
  · rw [if_pos h3]
    apply pure_of _ (d_jobs_Queue_Pass _ _ H) rfl
    rotate_left 2
    · simp (disch := first | with_reducible rfl | assumption | omega | rfl | (simp only [go_sem]; first | done | omega)) only [go_sem, ↓reduceIte, reduceCtorEq, Nat.reduceEqDiff, Nat.reduceAdd, Nat.reduceSub, Nat.reduceMul, Nat.reduceDiv, Nat.reduceMod, Nat.reduceLeDiff, Nat.reduceLT, Nat.reduceBEq, Int.reduceEq, Int.reduceBEq, Int.reduceBNe, Int.reduceLT, Int.reduceLE, Int.reduceAdd, Int.reduceSub, Int.reduceNeg, Int.reduceToNat, Int.reducePow, Nat.reducePow, Int.reduceMul, Int.reduceDiv, ↓s_jobs_Queue_Pass, ↓enterK_eq m0, enterK_eq m0, h1, h2, fq, h3]
      rfl
    · (repeat (first | exact Fr.refl _ | refine Fr.push ?_ _ | refine Fr.set ?_ _ _ (by intro h; first | omega | (simp only [go_sem] at h; omega))))
  · rw [if_neg h3] at h
    exact absurd rfl h
theorem q_QPass0 (p : Value) (tick : Int) (H : AHeap) (hq : NQ H p) : CC F.jobs_Queue_Pass [p, .int .i64 tick] H = some (.int .i64 1, H) := by
  have m0 := hq.none
  apply pure_of _ (d_jobs_Queue_Pass _ _ H) rfl
  rotate_left 2
  · simp (disch := first | with_reducible rfl | assumption | omega | rfl | (simp only [go_sem]; first | done | omega)) only [go_sem, ↓reduceIte, reduceCtorEq, Nat.reduceEqDiff, Nat.reduceAdd, Nat.reduceSub, Nat.reduceMul, Nat.reduceDiv, Nat.reduceMod, Nat.reduceLeDiff, Nat.reduceLT, Nat.reduceBEq, Int.reduceEq, Int.reduceBEq, Int.reduceBNe, Int.reduceLT, Int.reduceLE, Int.reduceAdd, Int.reduceSub, Int.reduceNeg, Int.reduceToNat, Int.reducePow, Nat.reducePow, Int.reduceMul, Int.reduceDiv, ↓s_jobs_Queue_Pass, ↓enterK_eq m0, enterK_eq m0]
    rfl
  · (repeat (first | exact Fr.refl _ | refine Fr.push ?_ _ | refine Fr.set ?_ _ _ (by intro h; first | omega | (simp only [go_sem] at h; omega))))
theorem pass_fold {A : List Jb} {n : Int} (h : AOk A n) (tries tick : Int) :
    (((srtJ A).filter fun j => decide (j.state = 2)).takeWhile (dueJ tick)).foldl (fun A j => repJ A (backJ tries j)) A = passJ A tries tick := by
  have hs := h.sj
  have hF : ((srtJ A).filter fun j => decide (j.state = 2)).Pairwise fun a b => befJ a b = true := hs.sublist List.filter_sublist
  have hst : ∀ a ∈ (srtJ A).filter fun j => decide (j.state = 2), a.state = 2 := fun a ha => by simpa using (List.mem_filter.1 ha).2
  have hm : ∀ a ∈ (srtJ A).filter fun j => decide (j.state = 2), a ∈ A := fun a ha => mem_srt.1 (List.mem_filter.1 ha).1
  have ht : ((srtJ A).filter fun j => decide (j.state = 2)).Pairwise fun a b => a.til ≤ b.til := by
    refine hF.imp_of_mem fun {a b} ha hb hab => ?_
    have h1 := hst a ha
    have h2 := hst b hb
    rw [befJ_lex] at hab
    unfold ordJ at hab
    rw [if_neg (by omega), if_pos h1, if_neg (by omega), if_pos h2] at hab
    omega
  have hn : ((srtJ A).filter fun j => decide (j.state = 2)).Pairwise fun a b => a.id ≠ b.id := by
    refine hF.imp_of_mem fun {a b} ha hb hab e => ?_
    have := inc_uniq h.inc (hm a ha) (hm b hb) e
    rw [this, befJ_irr] at hab
    cases hab
  rw [while_filter ht, fold_rep tries _ A h.inc (fun j hj => fnd_mem h.inc (hm j (List.mem_filter.1 hj).1)) (hn.sublist List.filter_sublist)]
  unfold passJ
  apply List.map_congr_left
  intro a ha
  have : a ∈ ((srtJ A).filter fun j => decide (j.state = 2)).filter (dueJ tick) ↔ a.state = 2 ∧ a.til ≤ tick := by
    rw [List.mem_filter, List.mem_filter, mem_srt]
    unfold dueJ
    simp only [decide_eq_true_eq]
    exact ⟨fun h => ⟨h.1.2, h.2⟩, fun h => ⟨⟨ha, h.1⟩, h.2⟩⟩
  by_cases hc : a.state = 2 ∧ a.til ≤ tick
  · rw [if_pos hc, if_pos (this.2 hc)]
  · rw [if_neg hc, if_neg fun h => hc (this.1 h)]
set_option maxHeartbeats 1000000 in
theorem q_QPass (bq bm bk : Nat) (A : List Jb) (tries last now tick : Int) (H : AHeap) (ok : Ok H) (r : QR H bq bm bk A tries last now) (i : QI A tries last now) (h : passE now tick = 0) :
    ∃ H', CC F.jobs_Queue_Pass [.pointer (some ⟨bq, 0, none⟩), .int .i64 tick] H = some (.int .i64 0, H') ∧ QR H' bq bm bk (passJ A tries tick) tries last tick ∧ QI (passJ A tries tick) tries last tick ∧ UpQ H bq bm bk H' := by
  have hb : ¬ (tick < 0 ∨ 1099511627776 < tick) := fun c => by unfold passE at h; rw [if_pos c] at h; cases h
  have h3 : ¬ tick < now := fun c => by unfold passE at h; rw [if_neg hb, if_pos c] at h; cases h
  have h1 : ¬ tick < 0 := by omega
  have h2 : ¬ 1099511627776 < tick := by omega
  have m0 := r.q_none
  have fq := r.f
  unfold qcells at fq
  obtain ⟨H1, hH1⟩ : ∃ H1, H.set bq (.cells [.pointer (some ⟨bm, 0, none⟩), .map (some bk), .int .i64 tries, .int .i64 last, .int .i64 tick] T.jobs_Queue true) = H1 := ⟨_, rfl⟩
  obtain ⟨r1, u1⟩ := r.setq hH1
  obtain ⟨_, _, f1, v1⟩ := set_blk hH1
  have ok1 := ok.fr u1.fr
  have i1 : QI A tries last tick := ⟨i.a, i.t, i.l, by omega, i.w⟩
  have mn := q_jnum 2 H1 (by decide) (by decide)
  obtain ⟨H2, hH2⟩ : ∃ H2, H1.push (.cells [.int .i64 1, .int .u64 2, .int .i64 0, .string (mk []), .bool false] T.api_Cell true) = H2 := ⟨_, rfl⟩
  obtain ⟨s2, n2, f2⟩ := push_blk hH2
  have hc : Rd ECl H2 (.slice (some ⟨H1.n, 0, none⟩) 1 2) [numC 2] := (newE (E := ECl) (l := [numC 2]) (e := T.api_Cell) (by omega) f2).1
  obtain ⟨v, H3, m3, so⟩ := q_inS bq bm bk A tries last tick 2 (by decide) _ H2 (ok1.fr s2) (r1.still s2) i1 hc
  have st := s2.trans so.still
  have r3 := r1.still st
  have hlen := so.own.rd.lenS
  have hm : ∀ a ∈ (srtJ A).filter fun j => decide (j.state = 2), a ∈ A := fun a ha => mem_srt.1 (List.mem_filter.1 ha).1
  have hll : ((srtJ A).filter fun j => decide (j.state = 2)).length ≤ 1000 := by
    have := List.length_filter_le (fun j : Jb => decide (j.state = 2)) (srtJ A)
    rw [len_srt] at this
    have := i.len
    omega
  have hn : ((srtJ A).filter fun j => decide (j.state = 2)).Pairwise fun a b => a.id ≠ b.id := by
    have hF : ((srtJ A).filter fun j => decide (j.state = 2)).Pairwise fun a b => befJ a b = true := i.a.sj.sublist List.filter_sublist
    refine hF.imp_of_mem fun {a b} ha hb hab e => ?_
    have := inc_uniq i.a.inc (hm a ha) (hm b hb) e
    rw [this, befJ_irr] at hab
    cases hab
  obtain ⟨H4, r4, i4, u4, e4⟩ := l_pass bq bm bk tries last tick _ hll (fun j hj => i.a.ok j (hm j hj)) v H3 so.own.rd (fun b hb h => by
    have h1 := so.new b hb
    have h2 := (r1.still s2).blk (h.still (r1.still s2).mdl so.still)
    omega) _ 0 H3 A (by simp) (ok1.fr st) r3 i1 (UpQ.refl _ _ _ _) (fun j hj => fnd_mem i.a.inc (hm j hj)) hn
  rw [pass_fold i.a] at r4 i4
  have u14 := u1.trans (UpQ.pre r1 st u4)
  obtain ⟨H5, t1, t2, t3⟩ := QR.tidy (v := .int .i64 0) ok r r4 u14
  refine ⟨H5, (d_jobs_Queue_Pass _ _ H (r := (.int .i64 0, H4)) ?_).trans (congrArg some t1), t2, i4, t3⟩
  generalize ((srtJ A).filter fun j => decide (j.state = 2)) = L at hlen e4
  have e4 : ∀ K : K, l_jobs_Queue_Pass_0 (.pointer (some ⟨bq, 0, none⟩)) (.int .i64 tick) v (.int .i64 (L.length : Int)) (.int .i64 0) H3 (blkK [] 1 K) = K .normal [] H4 := e4
  simp (disch := first | with_reducible rfl | assumption | omega | rfl | (simp only [go_sem]; first | done | omega)) only [go_sem, ↓reduceIte, reduceCtorEq, Nat.reduceEqDiff, Nat.reduceAdd, Nat.reduceSub, Nat.reduceMul, Nat.reduceDiv, Nat.reduceMod, Nat.reduceLeDiff, Nat.reduceLT, Nat.reduceBEq, Int.reduceEq, Int.reduceBEq, Int.reduceBNe, Int.reduceLT, Int.reduceLE, Int.reduceAdd, Int.reduceSub, Int.reduceNeg, Int.reduceToNat, Int.reducePow, Nat.reducePow, Int.reduceMul, Int.reduceDiv, ↓s_jobs_Queue_Pass, ↓enterK_eq m0, enterK_eq m0, h1, h2, fq, h3, hH1, ↓enterK_eq mn, enterK_eq mn, hH2, ↓enterK_eq m3, enterK_eq m3, hlen, e4]

end Go.Proofs.YtmiinbhnfojnbaaDoor

/-
  Chapter 46: the law's puts, takes, gets, taken.
  Conditions: none. By an AI agent.
-/
set_option maxRecDepth 10000
set_option linter.unusedSimpArgs false
set_option linter.unusedVariables false
namespace Go.Proofs.YtmiinbhnfojnbaaDoor
open Go Eng
attribute [local congr] bareK_congr' bothK_congr' quietK_congr'

theorem ceqs_job (a b : Jb) : ceqs a.l b.l = decide (a = b) := by
  obtain ⟨a1, a2, a3, a4, a5, a6, a7⟩ := a
  obtain ⟨b1, b2, b3, b4, b5, b6, b7⟩ := b
  have hs : (bl a3 = bl b3) = (a3 = b3) := propext ⟨fun h => Eng.bl_inj h, fun h => by rw [h]⟩
  simp only [Jb.l, ceqs, ceq, Jb.mk.injEq]
  apply Bool.eq_iff_iff.2
  simp [hs]
theorem job_eq' {ox oy : Operand} (a b : Jb) : xbin Tryd.prog .eql T.api_Job ox oy (.agg ⟨a.l⟩) (.agg ⟨b.l⟩) = some (.bool (decide (a = b))) := by
  have h := agg_eq (P := Tryd.prog) (t := T.api_Job) (xs := a.l) (ys := b.l) (ox := ox) (oy := oy) Tryd.underlying31 (by kernel_rfl) (by kernel_rfl) (by kernel_rfl) rfl rfl
  rw [h, ceqs_job]
theorem job_same {ox oy : Operand} (a : Jb) : xbin Tryd.prog .eql T.api_Job ox oy (.agg #[.int .i64 a.id, .int .i64 a.prio, .string a.body, .int .i64 a.state, .int .i64 a.tries, .int .i64 a.who, .int .i64 a.til]) (.agg #[.int .i64 a.id, .int .i64 a.prio, .string a.body, .int .i64 a.state, .int .i64 a.tries, .int .i64 a.who, .int .i64 a.til]) = some (.bool true) := by
  have := job_eq' (ox := ox) (oy := oy) a a
  rw [decide_eq_true rfl] at this
  exact this
theorem Jb.lit (a : Jb) : Value.agg ⟨a.l⟩ = .agg #[.int .i64 a.id, .int .i64 a.prio, .string a.body, .int .i64 a.state, .int .i64 a.tries, .int .i64 a.who, .int .i64 a.til] := rfl

/-! ### puts, takes, gets -/
theorem q_puts_of {H H' : AHeap} {p : Value} {prio n e : Int} {body : ByteArray} (m : CC F.jobs_Queue_Put [p, .int .i64 prio, .string body] H = some (.tuple #[.int .i64 n, .int .i64 e], H')) :
    CC F.law_puts [p, .int .i64 prio, .string body, .int .i64 n, .int .i64 e] H = some (tidy H (.bool true, H')) := by
  refine d_law_puts _ _ _ _ _ H (r := (.bool true, H')) ?_
  simp (disch := first | with_reducible rfl | assumption | omega | rfl | (simp only [go_sem]; first | done | omega)) only [go_sem, ↓reduceIte, reduceCtorEq, Nat.reduceEqDiff, Nat.reduceAdd, Nat.reduceSub, Nat.reduceMul, Nat.reduceDiv, Nat.reduceMod, Nat.reduceLeDiff, Nat.reduceLT, Nat.reduceBEq, Int.reduceEq, Int.reduceBEq, Int.reduceBNe, Int.reduceLT, Int.reduceLE, Int.reduceAdd, Int.reduceSub, Int.reduceNeg, Int.reduceToNat, Int.reducePow, Nat.reducePow, Int.reduceMul, Int.reduceDiv, ↓s_law_puts, ↓enterK_eq m, enterK_eq m]
theorem q_takes_of {H H1 H2 : AHeap} {p : Value} {who n e : Int} (j : Jb) (hH1 : H.push (.cells [.int .i64 j.id, .int .i64 j.prio, .string j.body, .int .i64 j.state, .int .i64 j.tries, .int .i64 j.who, .int .i64 j.til] T.api_Job true) = H1) (m : CC F.jobs_Queue_Take [p, .int .i64 who, .int .i64 n] H1 = some (.tuple #[.agg #[.int .i64 j.id, .int .i64 j.prio, .string j.body, .int .i64 j.state, .int .i64 j.tries, .int .i64 j.who, .int .i64 j.til], .int .i64 e], H2))
    (n2 : H1.n ≤ H2.n) (f2 : H2.f H.n = .cells [.int .i64 j.id, .int .i64 j.prio, .string j.body, .int .i64 j.state, .int .i64 j.tries, .int .i64 j.who, .int .i64 j.til] T.api_Job true) :
    ∃ H4, CC F.law_takes [p, .int .i64 who, .int .i64 n, .agg #[.int .i64 j.id, .int .i64 j.prio, .string j.body, .int .i64 j.state, .int .i64 j.tries, .int .i64 j.who, .int .i64 j.til], .int .i64 e] H = some (tidy H (.bool true, H4)) ∧ Still H2 H4 := by
  obtain ⟨s1, n1, f1⟩ := push_blk hH1
  obtain ⟨H3, hH3⟩ : ∃ H3, H2.push (.cells [.int .i64 0, .int .i64 0, .string (Eng.mk []), .int .i64 0, .int .i64 0, .int .i64 0, .int .i64 0] T.api_Job true) = H3 := ⟨_, rfl⟩
  obtain ⟨s3, n3, f3⟩ := push_blk hH3
  obtain ⟨H4, hH4⟩ : ∃ H4, H3.set H2.n (.cells [.int .i64 j.id, .int .i64 j.prio, .string j.body, .int .i64 j.state, .int .i64 j.tries, .int .i64 j.who, .int .i64 j.til] T.api_Job true) = H4 := ⟨_, rfl⟩
  obtain ⟨s4, n4, f4, _⟩ := set_blk hH4
  have g4 : H4.f H.n = .cells [.int .i64 j.id, .int .i64 j.prio, .string j.body, .int .i64 j.state, .int .i64 j.tries, .int .i64 j.who, .int .i64 j.til] T.api_Job true := by rw [s4.f (by omega) (by omega), s3.f (by omega) fun h => h]; exact f2
  have je : ∀ ox oy, xbin Tryd.prog .eql T.api_Job ox oy (.agg #[.int .i64 j.id, .int .i64 j.prio, .string j.body, .int .i64 j.state, .int .i64 j.tries, .int .i64 j.who, .int .i64 j.til]) (.agg #[.int .i64 j.id, .int .i64 j.prio, .string j.body, .int .i64 j.state, .int .i64 j.tries, .int .i64 j.who, .int .i64 j.til]) = some (.bool true) := fun ox oy => job_same j
  refine ⟨H4, d_law_takes _ _ _ _ _ H (r := (.bool true, H4)) ?_, s3.then s4 fun b hb h => by omega⟩
  simp (disch := first | with_reducible rfl | assumption | omega | rfl | (simp only [go_sem]; first | done | omega)) only [go_sem, ↓reduceIte, reduceCtorEq, Nat.reduceEqDiff, Nat.reduceAdd, Nat.reduceSub, Nat.reduceMul, Nat.reduceDiv, Nat.reduceMod, Nat.reduceLeDiff, Nat.reduceLT, Nat.reduceBEq, Int.reduceEq, Int.reduceBEq, Int.reduceBNe, Int.reduceLT, Int.reduceLE, Int.reduceAdd, Int.reduceSub, Int.reduceNeg, Int.reduceToNat, Int.reducePow, Nat.reducePow, Int.reduceMul, Int.reduceDiv, ↓s_law_takes, hH1, ↓enterK_eq m, enterK_eq m, hH3, f3, hH4, f4, g4, je]
theorem q_gets_of {H H1 H2 : AHeap} {p : Value} {id e : Int} (j : Jb) (hH1 : H.push (.cells [.int .i64 j.id, .int .i64 j.prio, .string j.body, .int .i64 j.state, .int .i64 j.tries, .int .i64 j.who, .int .i64 j.til] T.api_Job true) = H1) (m : CC F.jobs_Queue_Get [p, .int .i64 id] H1 = some (.tuple #[.agg #[.int .i64 j.id, .int .i64 j.prio, .string j.body, .int .i64 j.state, .int .i64 j.tries, .int .i64 j.who, .int .i64 j.til], .int .i64 e], H1)) :
    CC F.law_gets [p, .int .i64 id, .agg #[.int .i64 j.id, .int .i64 j.prio, .string j.body, .int .i64 j.state, .int .i64 j.tries, .int .i64 j.who, .int .i64 j.til], .int .i64 e] H = some (.bool true, H) := by
  obtain ⟨s1, n1, f1⟩ := push_blk hH1
  obtain ⟨H3, hH3⟩ : ∃ H3, H1.push (.cells [.int .i64 0, .int .i64 0, .string (Eng.mk []), .int .i64 0, .int .i64 0, .int .i64 0, .int .i64 0] T.api_Job true) = H3 := ⟨_, rfl⟩
  obtain ⟨s3, n3, f3⟩ := push_blk hH3
  obtain ⟨H4, hH4⟩ : ∃ H4, H3.set H1.n (.cells [.int .i64 j.id, .int .i64 j.prio, .string j.body, .int .i64 j.state, .int .i64 j.tries, .int .i64 j.who, .int .i64 j.til] T.api_Job true) = H4 := ⟨_, rfl⟩
  obtain ⟨s4, n4, f4, _⟩ := set_blk hH4
  have g4 : H4.f H.n = .cells [.int .i64 j.id, .int .i64 j.prio, .string j.body, .int .i64 j.state, .int .i64 j.tries, .int .i64 j.who, .int .i64 j.til] T.api_Job true := by rw [s4.f (by omega) (by omega), s3.f (by omega) fun h => h]; exact f1
  have je : ∀ ox oy, xbin Tryd.prog .eql T.api_Job ox oy (.agg #[.int .i64 j.id, .int .i64 j.prio, .string j.body, .int .i64 j.state, .int .i64 j.tries, .int .i64 j.who, .int .i64 j.til]) (.agg #[.int .i64 j.id, .int .i64 j.prio, .string j.body, .int .i64 j.state, .int .i64 j.tries, .int .i64 j.who, .int .i64 j.til]) = some (.bool true) := fun ox oy => job_same j
  refine pure_of (H' := H4) ?_ (d_law_gets _ _ _ _ H) rfl ((s1.trans s3).then s4 fun b hb h => by omega)
  simp (disch := first | with_reducible rfl | assumption | omega | rfl | (simp only [go_sem]; first | done | omega)) only [go_sem, ↓reduceIte, reduceCtorEq, Nat.reduceEqDiff, Nat.reduceAdd, Nat.reduceSub, Nat.reduceMul, Nat.reduceDiv, Nat.reduceMod, Nat.reduceLeDiff, Nat.reduceLT, Nat.reduceBEq, Int.reduceEq, Int.reduceBEq, Int.reduceBNe, Int.reduceLT, Int.reduceLE, Int.reduceAdd, Int.reduceSub, Int.reduceNeg, Int.reduceToNat, Int.reducePow, Nat.reducePow, Int.reduceMul, Int.reduceDiv, ↓s_law_gets, hH1, ↓enterK_eq m, enterK_eq m, hH3, f3, hH4, f4, g4, je]
section
variable {H : AHeap} {bq bm bk : Nat} {A : List Jb} {tries last now : Int}
/-- A state that is true of a queue. -/
structure QS (H : AHeap) (bq bm bk : Nat) (A : List Jb) (tries last now : Int) : Prop where
  ok : Ok H
  r : QR H bq bm bk A tries last now
  i : QI A tries last now
theorem QS.still {H' : AHeap} (q : QS H bq bm bk A tries last now) (s : Still H H') : QS H' bq bm bk A tries last now := ⟨q.ok.fr s, q.r.still s, q.i⟩
theorem QS.puts (q : QS H bq bm bk A tries last now) (hl : last < 900) (prio : Int) (body : ByteArray) (h : putBad prio body = 0) :
    ∃ H', CC F.law_puts [.pointer (some ⟨bq, 0, none⟩), .int .i64 prio, .string body, .int .i64 (last + 1), .int .i64 0] H = some (.bool true, H') ∧ QS H' bq bm bk (A ++ [newJ (last + 1) prio body]) tries (last + 1) now ∧ UpQ H bq bm bk H' := by
  have hb : ¬ (prio < 0 ∨ 9 < prio) := fun c => by unfold putBad at h; rw [if_pos c] at h; cases h
  have hc : ¬ 15 < (bl body).length := fun c => by unfold putBad at h; rw [if_neg hb, if_pos c] at h; cases h
  obtain ⟨H1, m1, r1, u1⟩ := q_QPut bq bm bk A tries last now prio body H q.ok q.r q.i hl (by omega) (by omega)
  obtain ⟨H2, t1, t2, t3⟩ := QR.tidy (v := .bool true) q.ok q.r r1 u1
  have hll := q.i.l
  have ht := q.i.t
  refine ⟨H2, (q_puts_of m1).trans (congrArg some t1), ⟨q.ok.fr t3.fr, t2, q.i.a.put (newJ_ok (by omega) (by omega) (by omega)) rfl, q.i.t, by omega, q.i.n, fun a ha hs => ?_⟩, t3⟩
  rcases List.mem_append.1 ha with h1 | h1
  · exact q.i.w a h1 hs
  · rw [List.mem_singleton.1 h1]; show (0 : Int) < tries; omega
theorem QS.putsBad (q : QS H bq bm bk A tries last now) (prio : Int) (body : ByteArray) (h : putBad prio body ≠ 0) :
    CC F.law_puts [.pointer (some ⟨bq, 0, none⟩), .int .i64 prio, .string body, .int .i64 0, .int .i64 (putBad prio body)] H = some (.bool true, H) := by
  rw [q_puts_of (q_QPut_bad bq bm bk A tries last now prio body H q.r h), tidy_same rfl (Fr.refl H)]
theorem QS.gets (q : QS H bq bm bk A tries last now) (id : Int) (j : Jb) (h : fnd A id = some j) : CC F.law_gets [.pointer (some ⟨bq, 0, none⟩), .int .i64 id, .agg #[.int .i64 j.id, .int .i64 j.prio, .string j.body, .int .i64 j.state, .int .i64 j.tries, .int .i64 j.who, .int .i64 j.til], .int .i64 0] H = some (.bool true, H) := by
  obtain ⟨H1, hH1⟩ : ∃ H1, H.push (.cells [.int .i64 j.id, .int .i64 j.prio, .string j.body, .int .i64 j.state, .int .i64 j.tries, .int .i64 j.who, .int .i64 j.til] T.api_Job true) = H1 := ⟨_, rfl⟩
  obtain ⟨s1, n1, f1⟩ := push_blk hH1
  have m := q_QGet bq bm bk A tries last now id H1 (q.ok.fr s1) (q.r.still s1) q.i
  rw [h] at m
  exact q_gets_of (H2 := H1) j hH1 m
theorem QS.takes (q : QS H bq bm bk A tries last now) (who n : Int) (j : Jb) (t : List Jb) (h : takeE A now who n = 0) (hj : waitJ A = j :: t) :
    ∃ H', CC F.law_takes [.pointer (some ⟨bq, 0, none⟩), .int .i64 who, .int .i64 n, .agg ⟨(takeJ j now who n).l⟩, .int .i64 0] H = some (.bool true, H') ∧ QS H' bq bm bk (repJ A (takeJ j now who n)) tries last now ∧ UpQ H bq bm bk H' := by
  generalize hx : takeJ j now who n = x
  obtain ⟨H1, hH1⟩ : ∃ H1, H.push (.cells [.int .i64 x.id, .int .i64 x.prio, .string x.body, .int .i64 x.state, .int .i64 x.tries, .int .i64 x.who, .int .i64 x.til] T.api_Job true) = H1 := ⟨_, rfl⟩
  obtain ⟨s1, n1, f1⟩ := push_blk hH1
  obtain ⟨H2, m2, r2, i2, u2⟩ := q_QTake bq bm bk A tries last now who n j t H1 (q.ok.fr s1) (q.r.still s1) q.i h hj
  rw [hx] at m2 r2 i2
  have hn : ¬ QB H1 bq bm bk H.n := fun h => by have := q.r.blk (h.still q.r.mdl s1); omega
  obtain ⟨H4, m4, s4⟩ := q_takes_of x hH1 m2 u2.fr.n (by rw [u2.fr.f (by omega) hn]; exact f1)
  obtain ⟨H5, t1, t2, t3⟩ := QR.tidy (v := .bool true) q.ok q.r (r2.still s4) ((UpQ.pre q.r s1 u2).trans (UpQ.of_still r2 s4))
  exact ⟨H5, m4.trans (congrArg some t1), ⟨q.ok.fr t3.fr, t2, i2⟩, t3⟩
theorem QS.takesBad (q : QS H bq bm bk A tries last now) (who n : Int) (h : takeE A now who n ≠ 0) :
    CC F.law_takes [.pointer (some ⟨bq, 0, none⟩), .int .i64 who, .int .i64 n, .agg #[.int .i64 0, .int .i64 0, .string (Eng.mk []), .int .i64 0, .int .i64 0, .int .i64 0, .int .i64 0], .int .i64 (takeE A now who n)] H = some (.bool true, H) := by
  obtain ⟨H1, hH1⟩ : ∃ H1, H.push (.cells [.int .i64 0, .int .i64 0, .string (Eng.mk []), .int .i64 0, .int .i64 0, .int .i64 0, .int .i64 0] T.api_Job true) = H1 := ⟨_, rfl⟩
  obtain ⟨s1, n1, f1⟩ := push_blk hH1
  have m2 := q_QTake_bad bq bm bk A tries last now who n H1 (q.ok.fr s1) (q.r.still s1) q.i h
  obtain ⟨H4, m4, s4⟩ := q_takes_of Z0 hH1 m2 (Nat.le_refl _) f1
  exact m4.trans (congrArg some (tidy_same rfl (s1.trans s4)))
theorem QS.finish (q : QS H bq bm bk A tries last now) (who id : Int) (h : takenE A who id = 0) :
    ∃ H', CC F.jobs_Queue_Finish [.pointer (some ⟨bq, 0, none⟩), .int .i64 who, .int .i64 id] H = some (.int .i64 0, H') ∧ QS H' bq bm bk (delJ A id) tries last now ∧ UpQ H bq bm bk H' := by
  obtain ⟨H1, m1, r1, u1⟩ := q_QFinish bq bm bk A tries last now who id H q.ok q.r q.i h
  exact ⟨H1, m1, ⟨q.ok.fr u1.fr, r1, q.i.a.del id, q.i.t, q.i.l, q.i.n, fun a ha => q.i.w a (mem_delJ.1 ha).1⟩, u1⟩
theorem QS.finishBad (q : QS H bq bm bk A tries last now) (who id : Int) (h : takenE A who id ≠ 0) :
    CC F.jobs_Queue_Finish [.pointer (some ⟨bq, 0, none⟩), .int .i64 who, .int .i64 id] H = some (.int .i64 (takenE A who id), H) :=
  q_QFinish_err _ who id _ h H (q_Qtaken_bad bq bm bk A tries last now who id H q.ok q.r q.i h)
theorem QS.back (q : QS H bq bm bk A tries last now) (who id : Int) (j : Jb) (h : takenE A who id = 0) (hf : fnd A id = some j) :
    ∃ H', CC F.jobs_Queue_Back [.pointer (some ⟨bq, 0, none⟩), .int .i64 who, .int .i64 id] H = some (.int .i64 0, H') ∧ QS H' bq bm bk (repJ A (backJ tries j)) tries last now ∧ UpQ H bq bm bk H' := by
  obtain ⟨H1, m1, r1, i1, u1⟩ := q_QBack bq bm bk A tries last now who id j H q.ok q.r q.i h hf
  exact ⟨H1, m1, ⟨q.ok.fr u1.fr, r1, i1⟩, u1⟩
theorem QS.revive (q : QS H bq bm bk A tries last now) (id : Int) (j : Jb) (hf : fnd A id = some j) (c : j.state = 3) :
    ∃ H', CC F.jobs_Queue_Revive [.pointer (some ⟨bq, 0, none⟩), .int .i64 id] H = some (.int .i64 0, H') ∧ QS H' bq bm bk (repJ A (reviveJ j)) tries last now ∧ UpQ H bq bm bk H' := by
  obtain ⟨H1, m1, r1, i1, u1⟩ := q_QRevive bq bm bk A tries last now id j H q.ok q.r q.i hf c
  exact ⟨H1, m1, ⟨q.ok.fr u1.fr, r1, i1⟩, u1⟩
theorem QS.pass (q : QS H bq bm bk A tries last now) (tick : Int) (h : passE now tick = 0) :
    ∃ H', CC F.jobs_Queue_Pass [.pointer (some ⟨bq, 0, none⟩), .int .i64 tick] H = some (.int .i64 0, H') ∧ QS H' bq bm bk (passJ A tries tick) tries last tick ∧ UpQ H bq bm bk H' := by
  obtain ⟨H1, m1, r1, i1, u1⟩ := q_QPass bq bm bk A tries last now tick H q.ok q.r q.i h
  exact ⟨H1, m1, ⟨q.ok.fr u1.fr, r1, i1⟩, u1⟩
end
theorem q_ltaken (id prio : Int) (body : ByteArray) (tr who til : Int) (H : AHeap) : CC F.law_taken [.int .i64 id, .int .i64 prio, .string body, .int .i64 tr, .int .i64 who, .int .i64 til] H = some (.agg #[.int .i64 id, .int .i64 prio, .string body, .int .i64 2, .int .i64 tr, .int .i64 who, .int .i64 til], H) := by
  obtain ⟨H1, hH1⟩ : ∃ H1, H.push (.cells [.int .i64 0, .int .i64 0, .string (Eng.mk []), .int .i64 0, .int .i64 0, .int .i64 0, .int .i64 0] T.api_Job true) = H1 := ⟨_, rfl⟩
  obtain ⟨s1, n1, f1⟩ := push_blk hH1
  obtain ⟨H2, hH2⟩ : ∃ H2, H1.set H.n (.cells [.int .i64 id, .int .i64 prio, .string body, .int .i64 2, .int .i64 tr, .int .i64 who, .int .i64 til] T.api_Job true) = H2 := ⟨_, rfl⟩
  obtain ⟨s2, n2, f2, _⟩ := set_blk hH2
  refine pure_of (H' := H2) ?_ (d_law_taken _ _ _ _ _ _ H) rfl (s1.then s2 fun b hb h => by omega)
  simp (disch := first | with_reducible rfl | assumption | omega | rfl | (simp only [go_sem]; first | done | omega)) only [go_sem, ↓reduceIte, reduceCtorEq, Nat.reduceEqDiff, Nat.reduceAdd, Nat.reduceSub, Nat.reduceMul, Nat.reduceDiv, Nat.reduceMod, Nat.reduceLeDiff, Nat.reduceLT, Nat.reduceBEq, Int.reduceEq, Int.reduceBEq, Int.reduceBNe, Int.reduceLT, Int.reduceLE, Int.reduceAdd, Int.reduceSub, Int.reduceNeg, Int.reduceToNat, Int.reducePow, Nat.reducePow, Int.reduceMul, Int.reduceDiv, ↓s_law_taken, hH1, f1, hH2, f2, xload_job]

end Go.Proofs.YtmiinbhnfojnbaaDoor

/-
  Chapter 46: known() returns true.
  Conditions: none. By an AI agent.
-/
set_option maxRecDepth 10000
set_option linter.unusedSimpArgs false
set_option linter.unusedVariables false
namespace Go.Proofs.YtmiinbhnfojnbaaDoor
open Go Eng
attribute [local congr] bareK_congr' bothK_congr' quietK_congr'

def kn0 : List Jb := []
def kn1 : List Jb := [⟨1, 3, Eng.mk [97], 1, 0, 0, 0⟩]
def kn2 : List Jb := [⟨1, 3, Eng.mk [97], 1, 0, 0, 0⟩, ⟨2, 7, Eng.mk [98], 1, 0, 0, 0⟩]
def kn3 : List Jb := [⟨1, 3, Eng.mk [97], 1, 0, 0, 0⟩, ⟨2, 7, Eng.mk [98], 1, 0, 0, 0⟩, ⟨3, 3, Eng.mk [99], 1, 0, 0, 0⟩]
def kn4 : List Jb := [⟨1, 3, Eng.mk [97], 1, 0, 0, 0⟩, ⟨2, 7, Eng.mk [98], 2, 1, 5, 10⟩, ⟨3, 3, Eng.mk [99], 1, 0, 0, 0⟩]
def kn5 : List Jb := [⟨1, 3, Eng.mk [97], 2, 1, 6, 4⟩, ⟨2, 7, Eng.mk [98], 2, 1, 5, 10⟩, ⟨3, 3, Eng.mk [99], 1, 0, 0, 0⟩]
def kn6 : List Jb := [⟨1, 3, Eng.mk [97], 2, 1, 6, 4⟩, ⟨3, 3, Eng.mk [99], 1, 0, 0, 0⟩]
def kn7 : List Jb := [⟨1, 3, Eng.mk [97], 1, 1, 0, 0⟩, ⟨3, 3, Eng.mk [99], 1, 0, 0, 0⟩]
def kn8 : List Jb := [⟨1, 3, Eng.mk [97], 2, 2, 6, 4⟩, ⟨3, 3, Eng.mk [99], 1, 0, 0, 0⟩]
def kn9 : List Jb := [⟨1, 3, Eng.mk [97], 3, 2, 0, 0⟩, ⟨3, 3, Eng.mk [99], 1, 0, 0, 0⟩]
def kn10 : List Jb := [⟨1, 3, Eng.mk [97], 3, 2, 0, 0⟩, ⟨3, 3, Eng.mk [99], 2, 1, 9, 5⟩]
def kn11 : List Jb := [⟨1, 3, Eng.mk [97], 1, 0, 0, 0⟩, ⟨3, 3, Eng.mk [99], 2, 1, 9, 5⟩]

set_option maxHeartbeats 4000000 in
theorem k_known (H : AHeap) (ok : Ok H) : CC F.law_known [] H = some (.bool true, H) := by
  obtain ⟨bq, bm, bk, H0, m0, r0, i0, s0, new0⟩ := q_QNew 2 H (by decide)
  have q0 : QS H0 bq bm bk kn0 2 0 0 := ⟨ok.fr s0, r0, i0⟩
  obtain ⟨H1, m1, q1, u1⟩ : ∃ H', CC F.law_puts [.pointer (some ⟨bq, 0, none⟩), .int .i64 3, .string (Eng.mk [97]), .int .i64 1, .int .i64 0] H0 = some (.bool true, H') ∧ QS H' bq bm bk kn1 2 1 0 ∧ UpQ H0 bq bm bk H' := q0.puts (by decide) 3 (Eng.mk [97]) (by kernel_rfl)
  obtain ⟨H2, m2, q2, u2⟩ : ∃ H', CC F.law_puts [.pointer (some ⟨bq, 0, none⟩), .int .i64 7, .string (Eng.mk [98]), .int .i64 2, .int .i64 0] H1 = some (.bool true, H') ∧ QS H' bq bm bk kn2 2 2 0 ∧ UpQ H1 bq bm bk H' := q1.puts (by decide) 7 (Eng.mk [98]) (by kernel_rfl)
  obtain ⟨H3, m3, q3, u3⟩ : ∃ H', CC F.law_puts [.pointer (some ⟨bq, 0, none⟩), .int .i64 3, .string (Eng.mk [99]), .int .i64 3, .int .i64 0] H2 = some (.bool true, H') ∧ QS H' bq bm bk kn3 2 3 0 ∧ UpQ H2 bq bm bk H' := q2.puts (by decide) 3 (Eng.mk [99]) (by kernel_rfl)
  obtain ⟨H4, m4, q4, u4⟩ : ∃ H', CC F.law_takes [.pointer (some ⟨bq, 0, none⟩), .int .i64 5, .int .i64 10, .agg #[.int .i64 2, .int .i64 7, .string (Eng.mk [98]), .int .i64 2, .int .i64 1, .int .i64 5, .int .i64 10], .int .i64 0] H3 = some (.bool true, H') ∧ QS H' bq bm bk kn4 2 3 0 ∧ UpQ H3 bq bm bk H' := q3.takes 5 10 ⟨2, 7, Eng.mk [98], 1, 0, 0, 0⟩ [⟨1, 3, Eng.mk [97], 1, 0, 0, 0⟩, ⟨3, 3, Eng.mk [99], 1, 0, 0, 0⟩] (by kernel_rfl) (by kernel_rfl)
  obtain ⟨H5, m5, q5, u5⟩ : ∃ H', CC F.law_takes [.pointer (some ⟨bq, 0, none⟩), .int .i64 6, .int .i64 4, .agg #[.int .i64 1, .int .i64 3, .string (Eng.mk [97]), .int .i64 2, .int .i64 1, .int .i64 6, .int .i64 4], .int .i64 0] H4 = some (.bool true, H') ∧ QS H' bq bm bk kn5 2 3 0 ∧ UpQ H4 bq bm bk H' := q4.takes 6 4 ⟨1, 3, Eng.mk [97], 1, 0, 0, 0⟩ [⟨3, 3, Eng.mk [99], 1, 0, 0, 0⟩] (by kernel_rfl) (by kernel_rfl)
  obtain ⟨H6, m6, q6, u6⟩ : ∃ H', CC F.jobs_Queue_Finish [.pointer (some ⟨bq, 0, none⟩), .int .i64 5, .int .i64 2] H5 = some (.int .i64 0, H') ∧ QS H' bq bm bk kn6 2 3 0 ∧ UpQ H5 bq bm bk H' := q5.finish 5 2 (by kernel_rfl)
  have x6 : CC F.jobs_Queue_Finish [.pointer (some ⟨bq, 0, none⟩), .int .i64 5, .int .i64 1] H6 = some (.int .i64 8, H6) := q6.finishBad 5 1 (by decide)
  obtain ⟨H7, m7, q7, u7⟩ : ∃ H', CC F.jobs_Queue_Back [.pointer (some ⟨bq, 0, none⟩), .int .i64 6, .int .i64 1] H6 = some (.int .i64 0, H') ∧ QS H' bq bm bk kn7 2 3 0 ∧ UpQ H6 bq bm bk H' := q6.back 6 1 ⟨1, 3, Eng.mk [97], 2, 1, 6, 4⟩ (by kernel_rfl) (by kernel_rfl)
  obtain ⟨H8, m8, q8, u8⟩ : ∃ H', CC F.law_takes [.pointer (some ⟨bq, 0, none⟩), .int .i64 6, .int .i64 4, .agg #[.int .i64 1, .int .i64 3, .string (Eng.mk [97]), .int .i64 2, .int .i64 2, .int .i64 6, .int .i64 4], .int .i64 0] H7 = some (.bool true, H') ∧ QS H' bq bm bk kn8 2 3 0 ∧ UpQ H7 bq bm bk H' := q7.takes 6 4 ⟨1, 3, Eng.mk [97], 1, 1, 0, 0⟩ [⟨3, 3, Eng.mk [99], 1, 0, 0, 0⟩] (by kernel_rfl) (by kernel_rfl)
  obtain ⟨H9, m9, q9, u9⟩ : ∃ H', CC F.jobs_Queue_Pass [.pointer (some ⟨bq, 0, none⟩), .int .i64 4] H8 = some (.int .i64 0, H') ∧ QS H' bq bm bk kn9 2 3 4 ∧ UpQ H8 bq bm bk H' := q8.pass 4 (by kernel_rfl)
  have x9 : CC F.law_gets [.pointer (some ⟨bq, 0, none⟩), .int .i64 1, .agg #[.int .i64 1, .int .i64 3, .string (Eng.mk [97]), .int .i64 3, .int .i64 2, .int .i64 0, .int .i64 0], .int .i64 0] H9 = some (.bool true, H9) := q9.gets 1 ⟨1, 3, Eng.mk [97], 3, 2, 0, 0⟩ (by kernel_rfl)
  obtain ⟨H10, m10, q10, u10⟩ : ∃ H', CC F.law_takes [.pointer (some ⟨bq, 0, none⟩), .int .i64 9, .int .i64 1, .agg #[.int .i64 3, .int .i64 3, .string (Eng.mk [99]), .int .i64 2, .int .i64 1, .int .i64 9, .int .i64 5], .int .i64 0] H9 = some (.bool true, H') ∧ QS H' bq bm bk kn10 2 3 4 ∧ UpQ H9 bq bm bk H' := q9.takes 9 1 ⟨3, 3, Eng.mk [99], 1, 0, 0, 0⟩ [] (by kernel_rfl) (by kernel_rfl)
  have x10 : CC F.law_takes [.pointer (some ⟨bq, 0, none⟩), .int .i64 9, .int .i64 1, .agg #[.int .i64 0, .int .i64 0, .string (Eng.mk []), .int .i64 0, .int .i64 0, .int .i64 0, .int .i64 0], .int .i64 9] H10 = some (.bool true, H10) := q10.takesBad 9 1 (by decide)
  obtain ⟨H11, m11, q11, u11⟩ : ∃ H', CC F.jobs_Queue_Revive [.pointer (some ⟨bq, 0, none⟩), .int .i64 1] H10 = some (.int .i64 0, H') ∧ QS H' bq bm bk kn11 2 3 4 ∧ UpQ H10 bq bm bk H' := q10.revive 1 ⟨1, 3, Eng.mk [97], 3, 2, 0, 0⟩ (by kernel_rfl) rfl
  have x11 : CC F.law_gets [.pointer (some ⟨bq, 0, none⟩), .int .i64 1, .agg #[.int .i64 1, .int .i64 3, .string (Eng.mk [97]), .int .i64 1, .int .i64 0, .int .i64 0, .int .i64 0], .int .i64 0] H11 = some (.bool true, H11) := q11.gets 1 ⟨1, 3, Eng.mk [97], 1, 0, 0, 0⟩ (by kernel_rfl)
  have y11 : CC F.jobs_Queue_Pass [.pointer (some ⟨bq, 0, none⟩), .int .i64 3] H11 = some (.int .i64 14, H11) := q_QPass_bad bq bm bk kn11 2 3 4 3 H11 q11.r (by decide)
  have z11 : CC F.law_puts [.pointer (some ⟨bq, 0, none⟩), .int .i64 10, .string (Eng.mk [120]), .int .i64 0, .int .i64 2] H11 = some (.bool true, H11) := q11.putsBad 10 (Eng.mk [120]) (by decide)
  obtain ⟨v, H12, m12, so⟩ := q_QJobs bq bm bk kn11 2 3 4 H11 q11.ok q11.r q11.i
  have hs : srtJ kn11 = kn11 := by kernel_rfl
  rw [hs] at so
  have hl : lenS v = some (.int .i64 2) := so.own.rd.lenS
  obtain ⟨b0, o0, ix0, _, c0, _⟩ := rd_job so.own.rd (i := 0) (by decide)
  obtain ⟨b1, o1, ix1, _, c1, _⟩ := rd_job so.own.rd (i := 1) (by decide)
  have ix0 : ixS 7 v (.int .i64 0) = some (.pointer (some ⟨b0, o0, none⟩)) := ix0
  have ix1 : ixS 7 v (.int .i64 1) = some (.pointer (some ⟨b1, o1, none⟩)) := ix1
  have e0 : cellB (H12.f b0) o0 = some (.int .i64 1) := cutB_cell c0 (i := 0) (by decide)
  have e1 : cellB (H12.f b1) o1 = some (.int .i64 3) := cutB_cell c1 (i := 0) (by decide)
  have t1 := fun H => q_ltaken 2 7 (Eng.mk [98]) 1 5 10 H
  have t2 := fun H => q_ltaken 1 3 (Eng.mk [97]) 1 6 4 H
  have t3 := fun H => q_ltaken 1 3 (Eng.mk [97]) 2 6 4 H
  have t4 := fun H => q_ltaken 3 3 (Eng.mk [99]) 1 9 5 H
  have U : UpQ H0 bq bm bk H11 := ((((((((((u1.trans u2).trans u3).trans u4).trans u5).trans u6).trans u7).trans u8).trans u9).trans u10).trans u11)
  have st : Still H H12 := ((s0.then U.fr fun b hb h => by have := new0 b h; omega).trans so.still)
  refine pure_of (H' := H12) ?_ (d_law_known H) rfl st
  simp (disch := first | with_reducible rfl | assumption | omega | rfl | (simp only [go_sem]; first | done | omega)) only [go_sem, ↓reduceIte, reduceCtorEq, Nat.reduceEqDiff, Nat.reduceAdd, Nat.reduceSub, Nat.reduceMul, Nat.reduceDiv, Nat.reduceMod, Nat.reduceLeDiff, Nat.reduceLT, Nat.reduceBEq, Int.reduceEq, Int.reduceBEq, Int.reduceBNe, Int.reduceLT, Int.reduceLE, Int.reduceAdd, Int.reduceSub, Int.reduceNeg, Int.reduceToNat, Int.reducePow, Nat.reducePow, Int.reduceMul, Int.reduceDiv, ↓s_law_known, ↓enterK_eq m0, enterK_eq m0, ↓enterK_eq m1, enterK_eq m1, ↓enterK_eq m2, enterK_eq m2, ↓enterK_eq m3, enterK_eq m3, enterK_eq (t1 _), ↓enterK_eq m4, enterK_eq m4, enterK_eq (t2 _), ↓enterK_eq m5, enterK_eq m5, ↓enterK_eq m6, enterK_eq m6, ↓enterK_eq x6, enterK_eq x6, ↓enterK_eq m7, enterK_eq m7, enterK_eq (t3 _), ↓enterK_eq m8, enterK_eq m8, ↓enterK_eq m9, enterK_eq m9, ↓enterK_eq x9, enterK_eq x9, enterK_eq (t4 _), ↓enterK_eq m10, enterK_eq m10, ↓enterK_eq x10, enterK_eq x10, ↓enterK_eq m11, enterK_eq m11, ↓enterK_eq x11, enterK_eq x11, ↓enterK_eq y11, enterK_eq y11, ↓enterK_eq z11, enterK_eq z11, ↓enterK_eq m12, enterK_eq m12, hl, ix0, ix1, e0, e1]

end Go.Proofs.YtmiinbhnfojnbaaDoor

/-
  Chapter 46: small; the law JobsNone.
  Conditions: none. By an AI agent.
-/
set_option maxRecDepth 10000
set_option linter.unusedSimpArgs false
set_option linter.unusedVariables false
namespace Go.Proofs.YtmiinbhnfojnbaaDoor
open Go Eng
attribute [local congr] bareK_congr' bothK_congr' quietK_congr'

structure Act where
  what : Int
  who : Int
  n : Int
  body : ByteArray
def EAct : Enc Act := ⟨4, fun a => [.int .i64 a.what, .int .i64 a.who, .int .i64 a.n, .string a.body], fun _ => rfl, by decide, fun _ => rfl⟩
theorem rd_act {H : AHeap} {v : Value} {l : List Act} (r : Rd EAct H v l) {i : Nat} (hi : i < l.length) : ∃ b o, ixS 4 v (.int .i64 (i : Int)) = some (.pointer (some ⟨b, o, none⟩)) ∧ b < H.n ∧ cutB (H.f b) o 4 = some [.int .i64 l[i].what, .int .i64 l[i].who, .int .i64 l[i].n, .string l[i].body] := by
  obtain ⟨b, o, h1, h2, h3, _⟩ := r.ix (q := .i64) hi
  exact ⟨b, o, h1, h2, h3⟩
theorem decAct {W : World} {H : Type} {enc : TypeId × Value → H} {p : Prop} (_ : p) {cs : List Value} {n : Nat} {y : DataW H × List MemPlace} (h : DataW.trod enc Tryd.prog W 0 (fun _ => true) true n T.law_Act cs = some y) (hl : cs.length = EAct.w) :
    ∃ a : Act, cs.map (conv2 W.heap.size) = EAct.enc a ∧ (-9223372036854775808 ≤ a.n ∧ a.n ≤ 9223372036854775807) := by
  have ht := Tryd.underlying40
  obtain ⟨c0, c1, c2, c3, rfl⟩ : ∃ c0 c1 c2 c3, cs = [c0, c1, c2, c3] := by
    match cs, hl with
    | [c0, c1, c2, c3], _ => exact ⟨_, _, _, _, rfl⟩
  obtain ⟨m0, z0, h0⟩ := dec_field ht h (i := 0) rfl rfl (by kernel_rfl) rfl
  obtain ⟨m1, z1, h1⟩ := dec_field ht h (i := 1) rfl rfl (by kernel_rfl) rfl
  obtain ⟨m2, z2, h2⟩ := dec_field ht h (i := 2) rfl rfl (by kernel_rfl) rfl
  obtain ⟨m3, z3, h3⟩ := dec_field ht h (i := 3) rfl rfl (by kernel_rfl) rfl
  obtain ⟨s0, rfl, _⟩ := dec_int Tryd.underlying3 h0
  obtain ⟨s1, rfl, _⟩ := dec_int Tryd.underlying3 h1
  obtain ⟨s2, rfl, w2⟩ := dec_int Tryd.underlying3 h2
  obtain ⟨s3, rfl, _⟩ := dec_str Tryd.underlying9 h3
  refine ⟨⟨s0, s1, s2, s3⟩, rfl, ?_⟩
  simp [Lit.wf, IntKind.min, IntKind.max, IntKind.signed, IntKind.bits] at w2
  omega

/-! ### small -/
def shortA (a : Act) : Bool := decide ((bl a.body).length ≤ 20)
def smallA (l : List Act) (most : Nat) : Bool := (l.take most).all shortA && decide (l.length ≤ most)
theorem l_small (l : List Act) (most : Nat) (hm : most ≤ 1000) (v : Value) (H : AHeap) (hr : Rd EAct H v l) : ∀ (t : List Act) (i : Nat), (l.take most).drop i = t → i ≤ most →
    (t.all shortA = false → ∀ K : K, l_law_small_0 v (.int .i64 (most : Int)) (.int .i64 (i : Int)) H (blkK [0, 1] 0 K) = K .ret [(4, .bool false)] H) ∧
    (t.all shortA = true → ∀ K : K, l_law_small_0 v (.int .i64 (most : Int)) (.int .i64 (i : Int)) H (blkK [0, 1] 0 K) = K .normal [(0, v), (1, .int .i64 (most : Int))] H)
  | [], i, hx, hi => by
    have h : (l.take most).length ≤ i := List.drop_eq_nil_iff.1 hx
    rw [List.length_take] at h
    have hlen := hr.lenS
    refine ⟨fun h => by simp at h, fun _ K => ?_⟩
    by_cases h1 : i < l.length
    · have h2 : i = most := by omega
      have hlt : (i : Int) < (l.length : Int) := by omega
      have hlt2 : ¬ (i : Int) < (most : Int) := by omega
      rw [r_law_small_0]
      simp (disch := first | with_reducible rfl | assumption | omega | rfl | (simp only [go_sem]; first | done | omega)) only [go_sem, ↓reduceIte, reduceCtorEq, Nat.reduceEqDiff, Nat.reduceAdd, Nat.reduceSub, Nat.reduceMul, Nat.reduceDiv, Nat.reduceMod, Nat.reduceLeDiff, Nat.reduceLT, Nat.reduceBEq, Int.reduceEq, Int.reduceBEq, Int.reduceBNe, Int.reduceLT, Int.reduceLE, Int.reduceAdd, Int.reduceSub, Int.reduceNeg, Int.reduceToNat, Int.reducePow, Nat.reducePow, Int.reduceMul, Int.reduceDiv, ↓s_law_small_b0, hlen, hlt, hlt2]
    · have hlt : ¬ (i : Int) < (l.length : Int) := by omega
      rw [r_law_small_0]
      simp (disch := first | with_reducible rfl | assumption | omega | rfl | (simp only [go_sem]; first | done | omega)) only [go_sem, ↓reduceIte, reduceCtorEq, Nat.reduceEqDiff, Nat.reduceAdd, Nat.reduceSub, Nat.reduceMul, Nat.reduceDiv, Nat.reduceMod, Nat.reduceLeDiff, Nat.reduceLT, Nat.reduceBEq, Int.reduceEq, Int.reduceBEq, Int.reduceBNe, Int.reduceLT, Int.reduceLE, Int.reduceAdd, Int.reduceSub, Int.reduceNeg, Int.reduceToNat, Int.reducePow, Nat.reducePow, Int.reduceMul, Int.reduceDiv, ↓s_law_small_b0, hlen, hlt]
  | a :: t, i, hx, hi => by
    obtain ⟨h, hxa, hx'⟩ := drop_cons hx
    rw [List.length_take] at h
    have hlen := hr.lenS
    have hlt : (i : Int) < (l.length : Int) := by omega
    have hlt2 : (i : Int) < (most : Int) := by omega
    obtain ⟨b, o, ix, lb, cb⟩ := rd_act hr (i := i) (by omega)
    have hel : l[i]'(by omega) = a := by rw [← hxa, List.getElem_take]
    rw [hel] at cb
    have c3 : cellB (H.f b) (o + 3) = some (.string a.body) := cutB_cell cb (i := 3) (by decide)
    have e1 : ((i : Int) + 1) = ((i + 1 : Nat) : Int) := by omega
    obtain ⟨k1, k2⟩ := l_small l most hm v H hr t (i + 1) hx' (by omega)
    by_cases hs : (bl a.body).length ≤ 20
    · have hs1 : shortA a = true := decide_eq_true hs
      have hs2 : ¬ (20 : Int) < ((bl a.body).length : Int) := by omega
      refine ⟨fun h K => ?_, fun h K => ?_⟩
      · rw [List.all_cons, hs1, Bool.true_and] at h
        have := k1 h K
        rw [← e1] at this
        rw [r_law_small_0]
        simp (disch := first | with_reducible rfl | assumption | omega | rfl | (simp only [go_sem]; first | done | omega)) only [go_sem, ↓reduceIte, reduceCtorEq, Nat.reduceEqDiff, Nat.reduceAdd, Nat.reduceSub, Nat.reduceMul, Nat.reduceDiv, Nat.reduceMod, Nat.reduceLeDiff, Nat.reduceLT, Nat.reduceBEq, Int.reduceEq, Int.reduceBEq, Int.reduceBNe, Int.reduceLT, Int.reduceLE, Int.reduceAdd, Int.reduceSub, Int.reduceNeg, Int.reduceToNat, Int.reducePow, Nat.reducePow, Int.reduceMul, Int.reduceDiv, ↓s_law_small_b0, hlen, hlt, hlt2, ix, c3, hs2]
        exact this
      · rw [List.all_cons, hs1, Bool.true_and] at h
        have := k2 h K
        rw [← e1] at this
        rw [r_law_small_0]
        simp (disch := first | with_reducible rfl | assumption | omega | rfl | (simp only [go_sem]; first | done | omega)) only [go_sem, ↓reduceIte, reduceCtorEq, Nat.reduceEqDiff, Nat.reduceAdd, Nat.reduceSub, Nat.reduceMul, Nat.reduceDiv, Nat.reduceMod, Nat.reduceLeDiff, Nat.reduceLT, Nat.reduceBEq, Int.reduceEq, Int.reduceBEq, Int.reduceBNe, Int.reduceLT, Int.reduceLE, Int.reduceAdd, Int.reduceSub, Int.reduceNeg, Int.reduceToNat, Int.reducePow, Nat.reducePow, Int.reduceMul, Int.reduceDiv, ↓s_law_small_b0, hlen, hlt, hlt2, ix, c3, hs2]
        exact this
    · have hs1 : shortA a = false := decide_eq_false hs
      have hs2 : (20 : Int) < ((bl a.body).length : Int) := by omega
      refine ⟨fun h K => ?_, fun h => by rw [List.all_cons, hs1] at h; cases h⟩
      rw [r_law_small_0]
      simp (disch := first | with_reducible rfl | assumption | omega | rfl | (simp only [go_sem]; first | done | omega)) only [go_sem, ↓reduceIte, reduceCtorEq, Nat.reduceEqDiff, Nat.reduceAdd, Nat.reduceSub, Nat.reduceMul, Nat.reduceDiv, Nat.reduceMod, Nat.reduceLeDiff, Nat.reduceLT, Nat.reduceBEq, Int.reduceEq, Int.reduceBEq, Int.reduceBNe, Int.reduceLT, Int.reduceLE, Int.reduceAdd, Int.reduceSub, Int.reduceNeg, Int.reduceToNat, Int.reducePow, Nat.reducePow, Int.reduceMul, Int.reduceDiv, ↓s_law_small_b0, hlen, hlt, hlt2, ix, c3, hs2]
theorem q_small (l : List Act) (most : Nat) (hm : most ≤ 1000) (v : Value) (H : AHeap) (hr : Rd EAct H v l) : CC F.law_small [v, .int .i64 (most : Int)] H = some (.bool (smallA l most), H) := by
  obtain ⟨k1, k2⟩ := l_small l most hm v H hr (l.take most) 0 rfl (by omega)
  have hlen := hr.lenS
  unfold smallA
  cases ha : (l.take most).all shortA with
  | false =>
    have k1 : ∀ K : K, l_law_small_0 v (.int .i64 (most : Int)) (.int .i64 0) H (blkK [0, 1] 0 K) = K .ret [(4, .bool false)] H := k1 ha
    rw [Bool.false_and]
    apply pure_of _ (d_law_small _ _ H) rfl
    rotate_left 2
    · simp (disch := first | with_reducible rfl | assumption | omega | rfl | (simp only [go_sem]; first | done | omega)) only [go_sem, ↓reduceIte, reduceCtorEq, Nat.reduceEqDiff, Nat.reduceAdd, Nat.reduceSub, Nat.reduceMul, Nat.reduceDiv, Nat.reduceMod, Nat.reduceLeDiff, Nat.reduceLT, Nat.reduceBEq, Int.reduceEq, Int.reduceBEq, Int.reduceBNe, Int.reduceLT, Int.reduceLE, Int.reduceAdd, Int.reduceSub, Int.reduceNeg, Int.reduceToNat, Int.reducePow, Nat.reducePow, Int.reduceMul, Int.reduceDiv, ↓s_law_small, k1]
      rfl
    · (repeat (first | exact Fr.refl _ | refine Fr.push ?_ _ | refine Fr.set ?_ _ _ (by intro h; first | omega | (simp only [go_sem] at h; omega))))
  | true =>
    have k2 : ∀ K : K, l_law_small_0 v (.int .i64 (most : Int)) (.int .i64 0) H (blkK [0, 1] 0 K) = K .normal [(0, v), (1, .int .i64 (most : Int))] H := k2 ha
    rw [Bool.true_and]
    have e : decide (l.length ≤ most) = decide ((l.length : Int) ≤ (most : Int)) := decide_eq_decide.2 (by omega)
    rw [e]
    apply pure_of _ (d_law_small _ _ H) rfl
    rotate_left 2
    · simp (disch := first | with_reducible rfl | assumption | omega | rfl | (simp only [go_sem]; first | done | omega)) only [go_sem, ↓reduceIte, reduceCtorEq, Nat.reduceEqDiff, Nat.reduceAdd, Nat.reduceSub, Nat.reduceMul, Nat.reduceDiv, Nat.reduceMod, Nat.reduceLeDiff, Nat.reduceLT, Nat.reduceBEq, Int.reduceEq, Int.reduceBEq, Int.reduceBNe, Int.reduceLT, Int.reduceLE, Int.reduceAdd, Int.reduceSub, Int.reduceNeg, Int.reduceToNat, Int.reducePow, Nat.reducePow, Int.reduceMul, Int.reduceDiv, ↓s_law_small, k2, hlen]
      rfl
    · (repeat (first | exact Fr.refl _ | refine Fr.push ?_ _ | refine Fr.set ?_ _ _ (by intro h; first | omega | (simp only [go_sem] at h; omega))))

end Go.Proofs.YtmiinbhnfojnbaaDoor

/-
  The seat's functions as terms over the engine's combinators (a program of ours printed it).
  Conditions: none. By an AI agent.
-/
set_option linter.unusedVariables false
namespace Go.Proofs.YtmiinbhnfojnbaaDoor
open Go Eng

/-! ticketline.ticketlinelaw46.JobsNone -/

noncomputable def s_law_JobsNone (mg : GT) (mc : CT) (ms : ST) (P : Program) (C : CallF) (L0 : Value → Value → Value → Value → AHeap → K → Res) (a0 : Value) (H : AHeap) (K0 : K) : Res :=
bothK (newv T.law_Act a0 H) fun t1 h1 =>
bareK (ldN 4 h1 t1) h1 fun t5 h2 =>
bothK (bldL T.law_Act [(.int .i64 0), (.int .i64 0), (.int .i64 0), (.string (mk []))] 1 [(0, t5)] h2) fun t6 h3 =>
enterK C F.law_small [t6, (.int .i64 1)] h3 fun t7 h4 =>
bareK (xun P .not t7) h4 fun t8 h5 =>
mc t8 (fun k1 => enterK C F.law_known [] h5 fun t9 h6 =>
k1 .ret [(2, t9)] h6) (fun k1 =>
k1 .normal [(1, t1)] h5) (seqK (fun tT h7 =>
bareK (bldS #[(.pointer none), (.map none), (.int .i64 0), (.int .i64 0), (.int .i64 0)] [(0, 1), (1, 1), (2, 1), (3, 1), (4, 1)] []) h7 fun t10 h8 =>
bothK (newv T.jobs_Queue t10 h8) fun t11 h9 =>
bothK (bldL T.p_jobs_Queue [(.pointer none)] 2 [(0, (.pointer none)), (1, t11)] h9) fun t12 h10 =>
bareK (lenS t12) h10 fun t13 h11 =>
ms (fun k2 =>
L0 (get tT 1) t12 t13 (.int .i64 0) h11 (blkK [] 0 k2)) (seqK (fun tT_1 h12 =>
enterK C F.law_known [] h12 fun t97 h13 =>
K0 .ret [(2, t97)] h13) K0)) K0)

noncomputable def s_law_JobsNone_b0 (mg : GT) (mc : CT) (ms : ST) (P : Program) (C : CallF) (L0 : Value → Value → Value → Value → AHeap → K → Res) (v1 : Value) (v12 : Value) (v13 : Value) (v14 : Value) (H : AHeap) (k : K) : Res :=
bareK (xbin P .lss T.int (.tmp 14) (.tmp 13) v14 v13) H fun t15 h12 =>
mc t15 (fun k3 => k3 .normal [(1, v1), (12, v12), (13, v13), (14, v14)] h12) (fun k3 =>
k3 (.exit 0) [(15, t15), (1, v1), (12, v12), (13, v13), (14, v14)] h12) (seqK (fun tT h13 =>
ms (fun k4 =>
bareK (ixS 1 (get tT 12) (get tT 14)) h13 fun t16 h14 =>
bareK (ld1 h14 t16) h14 fun t17 h15 =>
bareK (fad 2 (get tT 1)) h15 fun t19 h16 =>
bareK (ld1 h16 t19) h16 fun t20 h17 =>
bareK (fad 3 (get tT 1)) h17 fun t21 h18 =>
bareK (ld1 h18 t21) h18 fun t22 h19 =>
enterK C F.law_puts [t17, t20, t22, (.int .i64 0), (.int .i64 1)] h19 fun t23 h20 =>
bareK (xun P .not t23) h20 fun t24 h21 =>
mg t24 false (fun o5 => o5 t17 h21) h21 fun t26 h22 =>
mg t24 false (fun o6 => bareK (fad 1 (get tT 1)) h22 o6) h22 fun t27 h23 =>
mg t24 false (fun o7 => bareK (ld1 h23 t27) h23 o7) h23 fun t28 h24 =>
mg t24 false (fun o8 => bareK (fad 2 (get tT 1)) h24 o8) h24 fun t29 h25 =>
mg t24 false (fun o9 => bareK (ld1 h25 t29) h25 o9) h25 fun t30 h26 =>
mg t24 false (fun o10 => bareK (bldS #[(.int .i64 0), (.int .i64 0), (.string (mk [])), (.int .i64 0), (.int .i64 0), (.int .i64 0), (.int .i64 0)] [(0, 1), (1, 1), (2, 1), (3, 1), (4, 1), (5, 1), (6, 1)] []) h26 o10) h26 fun t31 h27 =>
mg t24 false (fun o11 => enterK C F.law_takes [t26, t28, t30, t31, (.int .i64 1)] h27 o11) h27 fun t32 h28 =>
mg t24 false (fun o12 => bareK (xun P .not t32) h28 o12) h28 fun t33 h29 =>
pickK t24 (.bool true) t33 fun t34 =>
mg t34 false (fun o13 => o13 t17 h29) h29 fun t36 h30 =>
mg t34 false (fun o14 => bareK (fad 1 (get tT 1)) h30 o14) h30 fun t37 h31 =>
mg t34 false (fun o15 => bareK (ld1 h31 t37) h31 o15) h31 fun t38 h32 =>
mg t34 false (fun o16 => bareK (fad 2 (get tT 1)) h32 o16) h32 fun t39 h33 =>
mg t34 false (fun o17 => bareK (ld1 h33 t39) h33 o17) h33 fun t40 h34 =>
mg t34 false (fun o18 => enterK C F.jobs_Queue_Finish [t36, t38, t40] h34 o18) h34 fun t41 h35 =>
mg t34 false (fun o19 => bareK (xbin P .neq T.api_Errno (.tmp 41) (.const (.int .i64 1)) t41 (.int .i64 1)) h35 o19) h35 fun t42 h36 =>
pickK t34 (.bool true) t42 fun t43 =>
mg t43 false (fun o20 => o20 t17 h36) h36 fun t45 h37 =>
mg t43 false (fun o21 => bareK (fad 1 (get tT 1)) h37 o21) h37 fun t46 h38 =>
mg t43 false (fun o22 => bareK (ld1 h38 t46) h38 o22) h38 fun t47 h39 =>
mg t43 false (fun o23 => bareK (fad 2 (get tT 1)) h39 o23) h39 fun t48 h40 =>
mg t43 false (fun o24 => bareK (ld1 h40 t48) h40 o24) h40 fun t49 h41 =>
mg t43 false (fun o25 => enterK C F.jobs_Queue_Back [t45, t47, t49] h41 o25) h41 fun t50 h42 =>
mg t43 false (fun o26 => bareK (xbin P .neq T.api_Errno (.tmp 50) (.const (.int .i64 1)) t50 (.int .i64 1)) h42 o26) h42 fun t51 h43 =>
pickK t43 (.bool true) t51 fun t52 =>
mg t52 false (fun o27 => o27 t17 h43) h43 fun t54 h44 =>
mg t52 false (fun o28 => bareK (fad 2 (get tT 1)) h44 o28) h44 fun t55 h45 =>
mg t52 false (fun o29 => bareK (ld1 h45 t55) h45 o29) h45 fun t56 h46 =>
mg t52 false (fun o30 => enterK C F.jobs_Queue_Revive [t54, t56] h46 o30) h46 fun t57 h47 =>
mg t52 false (fun o31 => bareK (xbin P .neq T.api_Errno (.tmp 57) (.const (.int .i64 1)) t57 (.int .i64 1)) h47 o31) h47 fun t58 h48 =>
pickK t52 (.bool true) t58 fun t59 =>
mg t59 false (fun o32 => o32 t17 h48) h48 fun t61 h49 =>
mg t59 false (fun o33 => bareK (fad 2 (get tT 1)) h49 o33) h49 fun t62 h50 =>
mg t59 false (fun o34 => bareK (ld1 h50 t62) h50 o34) h50 fun t63 h51 =>
mg t59 false (fun o35 => enterK C F.jobs_Queue_Pass [t61, t63] h51 o35) h51 fun t64 h52 =>
mg t59 false (fun o36 => bareK (xbin P .neq T.api_Errno (.tmp 64) (.const (.int .i64 1)) t64 (.int .i64 1)) h52 o36) h52 fun t65 h53 =>
pickK t59 (.bool true) t65 fun t66 =>
mg t66 false (fun o37 => o37 t17 h53) h53 fun t68 h54 =>
mg t66 false (fun o38 => bareK (fad 2 (get tT 1)) h54 o38) h54 fun t69 h55 =>
mg t66 false (fun o39 => bareK (ld1 h55 t69) h55 o39) h55 fun t70 h56 =>
mg t66 false (fun o40 => bareK (bldS #[(.int .i64 0), (.int .i64 0), (.string (mk [])), (.int .i64 0), (.int .i64 0), (.int .i64 0), (.int .i64 0)] [(0, 1), (1, 1), (2, 1), (3, 1), (4, 1), (5, 1), (6, 1)] []) h56 o40) h56 fun t71 h57 =>
mg t66 false (fun o41 => enterK C F.law_gets [t68, t70, t71, (.int .i64 1)] h57 o41) h57 fun t72 h58 =>
mg t66 false (fun o42 => bareK (xun P .not t72) h58 o42) h58 fun t73 h59 =>
pickK t66 (.bool true) t73 fun t74 =>
mg t74 false (fun o43 => o43 t17 h59) h59 fun t76 h60 =>
mg t74 false (fun o44 => enterK C F.jobs_Queue_Now [t76] h60 o44) h60 fun t77 h61 =>
mg t74 false (fun o45 => bareK (xbin P .neq T.int (.tmp 77) (.const (.int .i64 0)) t77 (.int .i64 0)) h61 o45) h61 fun t78 h62 =>
pickK t74 (.bool true) t78 fun t79 =>
mg t79 false (fun o46 => o46 t17 h62) h62 fun t81 h63 =>
mg t79 false (fun o47 => enterK C F.jobs_Queue_Jobs [t81] h63 o47) h63 fun t82 h64 =>
mg t79 false (fun o48 => bareK (lenS t82) h64 o48) h64 fun t83 h65 =>
mg t79 false (fun o49 => bareK (xbin P .neq T.int (.tmp 83) (.const (.int .i64 0)) t83 (.int .i64 0)) h65 o49) h65 fun t84 h66 =>
pickK t79 (.bool true) t84 fun t85 =>
mg t85 false (fun o50 => o50 t17 h66) h66 fun t87 h67 =>
mg t85 false (fun o51 => enterK C F.jobs_Queue_Map [t87] h67 o51) h67 fun t88 h68 =>
mg t85 false (fun o52 => bareK (xbin P .neq T.p_model_Model (.tmp 88) (.const (.pointer none)) t88 (.pointer none)) h68 o52) h68 fun t89 h69 =>
pickK t85 (.bool true) t89 fun t90 =>
mg t90 false (fun o53 => o53 t17 h69) h69 fun t92 h70 =>
mg t90 false (fun o54 => enterK C F.jobs_Queue_Copy [t92] h70 o54) h70 fun t93 h71 =>
mg t90 false (fun o55 => bareK (xbin P .neq T.p_jobs_Queue (.tmp 93) (.const (.pointer none)) t93 (.pointer none)) h71 o55) h71 fun t94 h72 =>
pickK t90 (.bool true) t94 fun t95 =>
mc t95 (fun k56 => k56 .ret [(2, (.bool false))] h72) (fun k56 =>
k56 .normal [(1, (get tT 1)), (12, (get tT 12)), (13, (get tT 13)), (14, (get tT 14))] h72) (blkK [1, 12, 13, 14] 1 k4)) (seqK (fun tT_1 h73 =>
bareK (xbin P .add T.int (.tmp 14) (.const (.int .i64 1)) (get tT_1 14) (.int .i64 1)) h73 fun t96 h74 =>
k .normal [(1, (get tT_1 1)), (12, (get tT_1 12)), (13, (get tT_1 13)), (14, t96)] h74) (afterK [1, 12, 13, 14] k))) (afterK [1, 12, 13, 14] k))

theorem s_law_JobsNone_eq (M : CombL) (C : CallF) (LP : LoopH) (a0 : Value) (H : AHeap) : dBodyL M Tryd.prog hints C LP F.law_JobsNone [a0] H = s_law_JobsNone M.b.g M.c M.s Tryd.prog C (fun v1 v12 v13 v14 H k => loopL M Tryd.prog hints C LP F.law_JobsNone 0 [(1, v1), (12, v12), (13, v13), (14, v14)] H k) a0 H (endK Tryd.prog [.tmp 2]) := by kernel_rfl

theorem s_law_JobsNone_b0_eq (M : CombL) (C : CallF) (LP : LoopH) (v1 : Value) (v12 : Value) (v13 : Value) (v14 : Value) (H : AHeap) (k : K) : bodyL M Tryd.prog hints C LP F.law_JobsNone 0 [(1, v1), (12, v12), (13, v13), (14, v14)] H (afterK [1, 12, 13, 14] k) = s_law_JobsNone_b0 M.b.g M.c M.s Tryd.prog C (fun v1 v12 v13 v14 H k => loopL M Tryd.prog hints C LP F.law_JobsNone 0 [(1, v1), (12, v12), (13, v13), (14, v14)] H k) v1 v12 v13 v14 H k := by kernel_rfl

end Go.Proofs.YtmiinbhnfojnbaaDoor

/-
  The equations of the seat's functions over calls in the limit (a program of ours printed it).
  Conditions: none. By an AI agent.
-/
set_option linter.unusedVariables false
namespace Go.Proofs.YtmiinbhnfojnbaaDoor
open Go Eng

noncomputable def l_law_JobsNone_0 (v1 : Value) (v12 : Value) (v13 : Value) (v14 : Value) (H : AHeap) (k : K) : Res := loopL stdL Tryd.prog hints CC limLP F.law_JobsNone 0 [(1, v1), (12, v12), (13, v13), (14, v14)] H k
theorem r_law_JobsNone_0 (v1 : Value) (v12 : Value) (v13 : Value) (v14 : Value) (H : AHeap) (k : K) : l_law_JobsNone_0 v1 v12 v13 v14 H k = s_law_JobsNone_b0 guardK condL shareL Tryd.prog CC l_law_JobsNone_0 v1 v12 v13 v14 H (seqK (fun T H => l_law_JobsNone_0 (get T 1) (get T 12) (get T 13) (get T 14) H k) k) := ((loopL_next (by kernel_rfl) rfl H k).trans (s_law_JobsNone_b0_eq stdL CC limLP v1 v12 v13 v14 H _)).trans (by kernel_rfl)
theorem d_law_JobsNone (a0 : Value) (H : AHeap) {r : Value × AHeap} (h : s_law_JobsNone guardK condL shareL Tryd.prog CC l_law_JobsNone_0 a0 H (endK Tryd.prog [.tmp 2]) = some r) : CC F.law_JobsNone [a0] H = some (tidy H r) := D_body (by kernel_rfl) ((s_law_JobsNone_eq stdL CC limLP a0 H).trans (Eq.trans (show s_law_JobsNone stdL.b.g stdL.c stdL.s Tryd.prog CC (fun v1 v12 v13 v14 H k => loopL stdL Tryd.prog hints CC limLP F.law_JobsNone 0 [(1, v1), (12, v12), (13, v13), (14, v14)] H k) a0 H (endK Tryd.prog [.tmp 2]) = s_law_JobsNone guardK condL shareL Tryd.prog CC l_law_JobsNone_0 a0 H (endK Tryd.prog [.tmp 2]) by kernel_rfl) h))

end Go.Proofs.YtmiinbhnfojnbaaDoor

/-
  Chapter 46: the law JobsNone.
  Conditions: none. By an AI agent.
-/
set_option maxRecDepth 10000
set_option linter.unusedSimpArgs false
set_option linter.unusedVariables false
namespace Go.Proofs.YtmiinbhnfojnbaaDoor
open Go Eng
attribute [local congr] bareK_congr' bothK_congr' quietK_congr'

theorem mpn_nil {ox oy : Operand} : xbin Tryd.prog .neq T.p_model_Model ox oy (.pointer none) (.pointer none) = some (.bool false) := by kernel_rfl
theorem qpn_nil {ox oy : Operand} : xbin Tryd.prog .neq T.p_jobs_Queue ox oy (.pointer none) (.pointer none) = some (.bool false) := by kernel_rfl
/-- One queue that is none. -/
theorem l_none (a : Act) (p : Value) (w : Value) (b1 : Nat) (i : Int) (b o : Nat) (H : AHeap) (hq : NQ H p) (h1 : H.f b1 = .cells [.int .i64 a.what, .int .i64 a.who, .int .i64 a.n, .string a.body] T.law_Act true)
    (hi : i < 2) (hi0 : 0 ≤ i) (ix : ixS 1 w (.int .i64 i) = some (.pointer (some ⟨b, o, none⟩))) (hc : cellB (H.f b) o = some p) (K : K) :
    l_law_JobsNone_0 (.pointer (some ⟨b1, 0, none⟩)) w (.int .i64 2) (.int .i64 i) H K = l_law_JobsNone_0 (.pointer (some ⟨b1, 0, none⟩)) w (.int .i64 2) (.int .i64 (i + 1)) H K := by
  obtain ⟨H1, hH1⟩ : ∃ H1, H.push (.cells [.int .i64 0, .int .i64 0, .string (Eng.mk []), .int .i64 0, .int .i64 0, .int .i64 0, .int .i64 0] T.api_Job true) = H1 := ⟨_, rfl⟩
  obtain ⟨s1, n1, f1⟩ := push_blk hH1
  have e1 := (q_puts_of (q_QPut0 p a.n a.body H hq)).trans (congrArg some (tidy_same rfl (Fr.refl H)))
  obtain ⟨H4, e2, s4⟩ := q_takes_of Z0 hH1 (q_QTake0 p a.who a.n H1 (hq.still s1)) (Nat.le_refl _) f1
  have e2 := e2.trans (congrArg some (tidy_same rfl (s1.trans s4)))
  have e2 : CC F.law_takes [p, .int .i64 a.who, .int .i64 a.n, .agg #[.int .i64 0, .int .i64 0, .string (Eng.mk []), .int .i64 0, .int .i64 0, .int .i64 0, .int .i64 0], .int .i64 1] H = some (.bool true, H) := e2
  have e3 := q_QFinish_err p a.who a.n 1 (by decide) H (q_Qtaken0 p a.who a.n H hq)
  have e4 := q_QBack_err p a.who a.n 1 (by decide) H (q_Qtaken0 p a.who a.n H hq)
  have e5 := q_QRevive0 p a.n H hq
  have e6 := q_QPass0 p a.n H hq
  have e7 : CC F.law_gets [p, .int .i64 a.n, .agg #[.int .i64 0, .int .i64 0, .string (Eng.mk []), .int .i64 0, .int .i64 0, .int .i64 0, .int .i64 0], .int .i64 1] H = some (.bool true, H) := q_gets_of (H2 := H1) Z0 hH1 (q_QGet0 p a.n H1 (hq.still s1))
  have e8 := q_QNow0 p H hq
  have e9 := q_QJobs0 p H hq
  have ea := q_QMap0 p H hq
  have eb := q_QCopy0 p H hq
  have hp1 : Eng.one p = true := by rcases hq with rfl | ⟨_, _, rfl, _⟩ <;> rfl
  rw [r_law_JobsNone_0]
  simp (disch := first | with_reducible rfl | assumption | omega | rfl | (simp only [go_sem]; first | done | omega)) only [go_sem, ↓reduceIte, reduceCtorEq, Nat.reduceEqDiff, Nat.reduceAdd, Nat.reduceSub, Nat.reduceMul, Nat.reduceDiv, Nat.reduceMod, Nat.reduceLeDiff, Nat.reduceLT, Nat.reduceBEq, Int.reduceEq, Int.reduceBEq, Int.reduceBNe, Int.reduceLT, Int.reduceLE, Int.reduceAdd, Int.reduceSub, Int.reduceNeg, Int.reduceToNat, Int.reducePow, Nat.reducePow, Int.reduceMul, Int.reduceDiv, ↓s_law_JobsNone_b0, hi, ix, hc, h1, ↓enterK_eq e1, enterK_eq e1, ↓enterK_eq e2, enterK_eq e2, ↓enterK_eq e3, enterK_eq e3, ↓enterK_eq e4, enterK_eq e4, ↓enterK_eq e5, enterK_eq e5, ↓enterK_eq e6, enterK_eq e6, ↓enterK_eq e7, enterK_eq e7, ↓enterK_eq e8, enterK_eq e8, ↓enterK_eq e9, enterK_eq e9, ↓enterK_eq ea, enterK_eq ea, ↓enterK_eq eb, enterK_eq eb, mpn_nil, qpn_nil]
set_option maxHeartbeats 1000000 in
theorem q_JobsNone (a : Act) (H : AHeap) (ok : Ok H) : ∃ H', CC F.law_JobsNone [.agg #[.int .i64 a.what, .int .i64 a.who, .int .i64 a.n, .string a.body]] H = some (.bool true, H') := by
  obtain ⟨H1, hH1⟩ : ∃ H1, H.push (.cells [.int .i64 a.what, .int .i64 a.who, .int .i64 a.n, .string a.body] T.law_Act true) = H1 := ⟨_, rfl⟩
  obtain ⟨s1, n1, f1⟩ := push_blk hH1
  obtain ⟨H2, hH2⟩ : ∃ H2, H1.push (.cells [.int .i64 a.what, .int .i64 a.who, .int .i64 a.n, .string a.body] T.law_Act true) = H2 := ⟨_, rfl⟩
  obtain ⟨s2, n2, f2⟩ := push_blk hH2
  have hr : Rd EAct H2 (.slice (some ⟨H1.n, 0, none⟩) 1 2) [a] := (newE (E := EAct) (l := [a]) (e := T.law_Act) (by omega) f2).1
  have m1 : CC F.law_small [.slice (some ⟨H1.n, 0, none⟩) 1 2, .int .i64 1] H2 = some (.bool (smallA [a] 1), H2) := q_small [a] 1 (by decide) _ H2 hr
  have ok2 : Ok H2 := ok.fr (s1.trans s2)
  have kn := k_known H2 ok2
  cases hs : smallA [a] 1 with
  | false =>
    rw [hs] at m1
    refine any_of (H1 := H2) (d_law_JobsNone _ H ?_)
    simp (disch := first | with_reducible rfl | assumption | omega | rfl | (simp only [go_sem]; first | done | omega)) only [go_sem, ↓reduceIte, reduceCtorEq, Nat.reduceEqDiff, Nat.reduceAdd, Nat.reduceSub, Nat.reduceMul, Nat.reduceDiv, Nat.reduceMod, Nat.reduceLeDiff, Nat.reduceLT, Nat.reduceBEq, Int.reduceEq, Int.reduceBEq, Int.reduceBNe, Int.reduceLT, Int.reduceLE, Int.reduceAdd, Int.reduceSub, Int.reduceNeg, Int.reduceToNat, Int.reducePow, Nat.reducePow, Int.reduceMul, Int.reduceDiv, ↓s_law_JobsNone, hH1, f1, hH2, ↓enterK_eq m1, enterK_eq m1, ↓enterK_eq kn, enterK_eq kn]
  | true =>
    rw [hs] at m1
    obtain ⟨H3, hH3⟩ : ∃ H3, H2.push (.cells [.pointer none, .map none, .int .i64 0, .int .i64 0, .int .i64 0] T.jobs_Queue true) = H3 := ⟨_, rfl⟩
    obtain ⟨s3, n3, f3⟩ := push_blk hH3
    obtain ⟨H4, hH4⟩ : ∃ H4, H3.push (.cells [.pointer none, .pointer (some ⟨H2.n, 0, none⟩)] T.p_jobs_Queue true) = H4 := ⟨_, rfl⟩
    obtain ⟨s4, n4, f4⟩ := push_blk hH4
    have g4 : H4.f H2.n = .cells [.pointer none, .map none, .int .i64 0, .int .i64 0, .int .i64 0] T.jobs_Queue true := by rw [s4.f (by omega) fun h => h]; exact f3
    have g1 : H4.f H.n = .cells [.int .i64 a.what, .int .i64 a.who, .int .i64 a.n, .string a.body] T.law_Act true := by rw [((s2.trans s3).trans s4).f (by omega) fun h => h]; exact f1
    have kn4 := k_known H4 (ok2.fr (s3.trans s4))
    have x0 : ∀ K : K, l_law_JobsNone_0 (.pointer (some ⟨H.n, 0, none⟩)) (.slice (some ⟨H3.n, 0, none⟩) 2 4) (.int .i64 2) (.int .i64 0) H4 K = l_law_JobsNone_0 (.pointer (some ⟨H.n, 0, none⟩)) (.slice (some ⟨H3.n, 0, none⟩) 2 4) (.int .i64 2) (.int .i64 1) H4 K := fun K =>
      l_none a (.pointer none) _ H.n 0 H3.n 0 H4 (.inl rfl) g1 (by decide) (by decide) rfl (by rw [f4]; rfl) K
    have x1 : ∀ K : K, l_law_JobsNone_0 (.pointer (some ⟨H.n, 0, none⟩)) (.slice (some ⟨H3.n, 0, none⟩) 2 4) (.int .i64 2) (.int .i64 1) H4 K = l_law_JobsNone_0 (.pointer (some ⟨H.n, 0, none⟩)) (.slice (some ⟨H3.n, 0, none⟩) 2 4) (.int .i64 2) (.int .i64 2) H4 K := fun K =>
      l_none a (.pointer (some ⟨H2.n, 0, none⟩)) _ H.n 1 H3.n 1 H4 (.inr ⟨_, _, rfl, by omega, g4⟩) g1 (by decide) (by decide) rfl (by rw [f4]; rfl) K
    have x2 : ∀ K : K, l_law_JobsNone_0 (.pointer (some ⟨H.n, 0, none⟩)) (.slice (some ⟨H3.n, 0, none⟩) 2 4) (.int .i64 2) (.int .i64 0) H4 (blkK [] 0 K) = K .normal [] H4 := fun K => by
      rw [x0, x1, r_law_JobsNone_0]
      simp (disch := first | with_reducible rfl | assumption | omega | rfl | (simp only [go_sem]; first | done | omega)) only [go_sem, ↓reduceIte, reduceCtorEq, Nat.reduceEqDiff, Nat.reduceAdd, Nat.reduceSub, Nat.reduceMul, Nat.reduceDiv, Nat.reduceMod, Nat.reduceLeDiff, Nat.reduceLT, Nat.reduceBEq, Int.reduceEq, Int.reduceBEq, Int.reduceBNe, Int.reduceLT, Int.reduceLE, Int.reduceAdd, Int.reduceSub, Int.reduceNeg, Int.reduceToNat, Int.reducePow, Nat.reducePow, Int.reduceMul, Int.reduceDiv, ↓s_law_JobsNone_b0]
    simp only [n3] at x2
    refine any_of (H1 := H4) (d_law_JobsNone _ H ?_)
    simp (disch := first | with_reducible rfl | assumption | omega | rfl | (simp only [go_sem]; first | done | omega)) only [go_sem, ↓reduceIte, reduceCtorEq, Nat.reduceEqDiff, Nat.reduceAdd, Nat.reduceSub, Nat.reduceMul, Nat.reduceDiv, Nat.reduceMod, Nat.reduceLeDiff, Nat.reduceLT, Nat.reduceBEq, Int.reduceEq, Int.reduceBEq, Int.reduceBNe, Int.reduceLT, Int.reduceLE, Int.reduceAdd, Int.reduceSub, Int.reduceNeg, Int.reduceToNat, Int.reducePow, Nat.reducePow, Int.reduceMul, Int.reduceDiv, ↓s_law_JobsNone, hH1, f1, hH2, ↓enterK_eq m1, enterK_eq m1, hH3, hH4, x2, ↓enterK_eq kn4, enterK_eq kn4]

theorem run_JobsNone (W : World) (v : Value) (a : Act) (hv : v = .agg ⟨EAct.enc a⟩) (_ : -9223372036854775808 ≤ a.n ∧ a.n ≤ 9223372036854775807) : ∃ k H', dCall Tryd.prog prims1 hints k F.law_JobsNone [v] (absHeap2 W) = some (.bool true, H') := by
  subst hv
  obtain ⟨H', h⟩ := q_JobsNone a (absHeap2 W) (fun _ => Nat.zero_lt_one)
  obtain ⟨k, h⟩ := D_run h
  exact ⟨k, _, h⟩

end Go.Proofs.YtmiinbhnfojnbaaDoor

/-
  The law JobsNone: for every input it returns true, and its input reads as it did; and its card.
  Conditions: none. By an AI agent.
-/
namespace Go.Proofs.YtmiinbhnfojnbaaDoor.jobsNone
open Go Go.ChangeShapes Go.WideShapes Go.ChangeAt Go.RowKit Go.Shelf Go.Lib
open Go.ChangeMaps (open_string shut_string)
set_option linter.unusedVariables false
theorem own : ownKnob Tryd.prog.godebug = none := by kernel_rfl
theorem laidOut : laidOutB Tryd.prog = true := by kernel_rfl
theorem glob (W : World) (hsh : W.ShapedOpen Tryd.prog) (hl : laidMetH Tryd.prog Rows.jobsNoneRow.laid W) : Eng.Glob W.heap.size W := fun g hg => by
  rw [MakeChecks.laidMetH_plain _ _ _ (by kernel_rfl)] at hl
  simp only [Eng.globs, List.mem_cons, List.not_mem_nil, or_false] at hg
  rcases hg with rfl
  · obtain ⟨m, hm⟩ := Go.Proofs.cell_of_shapedOpen_int (g := 0) (zero := #[.int .i64 0]) (t := 3) hsh (of_decide_eq_true (by kernel_rfl)) (by kernel_rfl) rfl (by kernel_rfl) (by kernel_rfl) Tryd.underlying3
    obtain ⟨cs, e, fr, h1, _, _⟩ := Eng.cell_abs hm
    rw [Eng.cell_cellO] at hm
    exact ⟨(Array.getElem?_eq_some_iff.1 h1).1, m, hm⟩
set_option maxRecDepth 100000 in
theorem lifted (os : Os) (started : os.Started) (H : Type) (enc : TypeId × Value → H) :
    ReturnsInHanded {} Tryd.checked os 5 .any (fun w args => (Rows.jobsNoneSpec.pre enc Tryd.prog Tryd.f5 [] false w args ∧ laidMetH Tryd.prog Rows.jobsNoneRow.laid w) ∧ sizedMet enc Tryd.prog Tryd.f5 (OpenSpec.ofChange Rows.jobsNoneSpec) false w args)
      (Rows.jobsNoneSpec.post enc Tryd.prog Tryd.f5 false true false false) := by
  refine Eng.wrapX (C := Tryd.checked) (X := fun w _ => laidMetH Tryd.prog Rows.jobsNoneRow.laid w) (fun _ _ _ hh h => h.of_heap hh) own started (by kernel_rfl) Tryd.func5
    (ChangeSpec.witness_shaped (enc := enc) (C := Tryd.checked) (os := os) (X := fun w _ => laidMetH Tryd.prog Rows.jobsNoneRow.laid w) false (World.laidAll Tryd.prog os Rows.jobsNoneRow.laid) #[.agg #[(.int .i64 0), (.int .i64 0), (.int .i64 0), (.string ByteArray.empty)]] 8 (World.laidAll_os _ _ _)
      (World.shaped_of_ZipB (by kernel_rfl) (by kernel_rfl)) (by kernel_rfl) (by kernel_rfl) (by kernel_rfl)
      (by rw [MakeChecks.laidMetH_plain _ _ _ (by kernel_rfl)]; exact laidMet_laidAll _ (by kernel_rfl) (by kernel_rfl))) ?_
  intro W base args ds gs before hval0 hW hsz0 hsh hlx
  have hsz : (DataW.weightsEach Tryd.prog (Tryd.f5.params.toList ++ Rows.jobsNoneSpec.plain.varTypes Tryd.prog) (ds ++ gs)).all (· ≤ reachBytes) = true := hsz0
  have hval : ∀ (j : Nat) t v, Tryd.f5.params[j]? = some t → args[j]? = some v → Value.okWide Tryd.prog W .any base t v := hval0
  have hW' := hW
  obtain ⟨p, q, hA0, hV, rfl, hfz, hnd⟩ := hW
  have hA : DataW.TrodAll enc Tryd.prog W 0 (fun _ => true) true Tryd.f5.params.toList args.toList ds p := hA0
  rw [Tryd.params5] at hA hval hsz
  obtain ⟨v0, vs0, d0, ds0, p0, q0, hargs, rfl, rfl, h0, r0⟩ := trodAll_cons hA
  obtain ⟨rfl, rfl, rfl⟩ := trodAll_nil r0
  obtain rfl : args = #[v0] := by cases args; simp_all
  obtain ⟨rfl, rfl⟩ := trodVars_none hV
  have k0 := h0
  have lt0 : ∀ x ∈ p0, x.block < W.heap.size := by obtain ⟨m, hm⟩ := k0; exact DataW.trod_lt m _ _ _ hm
  obtain ⟨l0, rd0, all0⟩ := Eng.open_agg2 (t := 40) Tryd.underlying40 (by kernel_rfl) (fun cs n y hp h hl => decAct hp h hl) (hval 0 40 v0 rfl rfl) k0
  refine (Eng.law_calls2 (args := #[v0]) prims1_ok mixed (glob W hsh hlx) (run_JobsNone W (Eng.convA2 W.heap.size v0) l0 rd0 all0)).mono fun e W' ⟨he, bel⟩ => ?_
  subst he
  exact ⟨_, rfl, _, _, _, [], _, [], hW', trodAll_mk1 (shut_bool Tryd.underlying4 _), (trodAll_cons_mk (Below.trod laidOut (by kernel_rfl) (of_decide_eq_true (by kernel_rfl)) k0 bel lt0) trodAll_mk0), rfl, bel.frame _, fun h => by cases h⟩

theorem over : Rows.jobsNoneRow.holds Tryd.pinned (OpenSpec.ofChange Rows.jobsNoneSpec) :=
  OpenClaim.holds_of_wide 5 Tryd.f5 rfl rfl rfl rfl rfl rfl rfl ⟨rfl, rfl, rfl, rfl, rfl⟩ rfl rfl rfl rfl rfl (by kernel_rfl) Tryd.func5 (by kernel_rfl)
    (of_decide_eq_true (by kernel_rfl)) (by unfold Func.isWrapper; first | (rw [if_pos (by decide +kernel)]; kernel_rfl) | (rw [if_neg (by decide +kernel)]; exact ⟨rfl, rfl⟩))
    (fun os started H enc _ => lifted os started H enc)
theorem proved : Rows.JobsNoneCardSaid :=
  Claim7.holds_tied_plain_at .later [] [.data, .pinned] true (true, "bd39f77b9b94eb43ac845b1c392a0cb432a3a9eb164094a21eb9e07866ad1c13") true over (fun _ h => by cases h) (by kernel_rfl) (fun _ h => by cases h) jobsNone_row_tie rfl ⟨rfl, rfl⟩ (by kernel_rfl) rfl
    (fun f fn hf hfn => by
      obtain rfl : f = 5 := Option.some.inj ((show Tryd.prog.funcNamed "ticketline/ticketlinelaw46.JobsNone" = some 5 by kernel_rfl).symm.trans hf) |>.symm
      obtain rfl : fn = Tryd.f5 := (Option.some.inj (Tryd.func5.symm.trans hfn)).symm
      exact ⟨by kernel_rfl, fun j t ht => by
        rw [Tryd.params5] at ht
        have hm : t ∈ [40] := by simpa using Array.mem_of_getElem? ht
        have hall : ([40].all fun u => !Tryd.prog.wantsStandIn u) = true := by kernel_rfl
        exact (show Tryd.prog.wantsStandIn t = false by simpa using List.all_eq_true.1 hall t hm)⟩)
    (by kernel_rfl)
#print axioms proved
end Go.Proofs.YtmiinbhnfojnbaaDoor.jobsNone
namespace Go.Proofs.YtmiinbhnfojnbaaDoor
/-- The card, under a short name, for the claim. -/
theorem jobsNone_card : Rows.JobsNoneCardSaid := jobsNone.proved
end Go.Proofs.YtmiinbhnfojnbaaDoor
