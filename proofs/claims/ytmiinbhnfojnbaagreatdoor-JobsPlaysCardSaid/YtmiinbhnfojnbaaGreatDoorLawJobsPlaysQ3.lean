/-
  The engine, contracts and laws: 17 texts in one (merge.py): Jl Jm Jn Jo Jp Ka Kb Kc Kd Ke Kf Kg Kh ShJobsPlays DsJobsPlays Ki LawJobsPlays.
  Conditions: none. By an AI agent.
-/
import Derived.Test.YtmiinbhnfojnbaaGreatDoorLawJobsPlaysQ2
import Derived.KernelRfl
import Derived.Test.YtmiinbhnfojnbaaGreatDoorChecked
import Derived.Test.YtmiinbhnfojnbaaGreatDoorRows
import Derived.Test.YtmiinbhnfojnbaaGreatDoorCards
import Derived.Test.YtmiinbhnfojnbaaGreatDoorTie
import Derived.WalkKit
import Derived.ProofKit
import Derived.OpenShut
import Derived.ShutString
import Derived.ChangeOld
import Derived.Below
import Derived.SizedLaws
import Derived.ChangeArms
import Derived.Carry
import Derived.Lay
import Derived.PinnedBridge
import Derived.LaidOnce
import Derived.SevenTiedAt
import Derived.HandedShaped
import Derived.Shelf.Vars
import Derived.Stop.LaidErr
set_option linter.unusedSimpArgs false
set_option linter.unusedVariables false
set_option linter.unusedSectionVars false
set_option maxRecDepth 10000
namespace Go.Proofs.YtmiinbhnfojnbaaGreatDoor
open Go Eng
attribute [local congr] YO YM YI
def QX (A : List Jb) : List Jb := (WC A).filter fun j => decide (j.state = 1)
def UH (A : List Jb) (now who n : Int) : Int := if who < 1 ∨ 1000 < who ∨ n < 1 ∨ 1099511627776 - now < n then 2 else if QX A = [] then 9 else 0
def WK (j : Jb) (now who n : Int) : Jb := ⟨j.id, j.prio, j.body, 2, j.tries + 1, who, now + n⟩
theorem wait_mem {A : List Jb} {j : Jb} {t : List Jb} (h : QX A = j :: t) : j ∈ A ∧ j.state = 1 := by
  have : j ∈ QX A := by rw [h]; simp
  unfold QX at this
  rw [List.mem_filter, US] at this
  simpa using this
theorem Vj {H : AHeap} {v : Value} {l : List Jb} (r : Rd EJb H v l) {i : Nat} (hi : i < l.length) : ∃ b o, ixS 7 v (.int .i64 (i : Int)) = some (.pointer (some ⟨b, o, none⟩)) ∧ b < H.n ∧ VA (H.f b) o 7 = some l[i].l ∧ Ye v = some b := by
  obtain ⟨b, o, h1, h2, h3, h4⟩ := r.ix (q := .i64) hi
  exact ⟨b, o, h1, h2, h3, h4⟩
set_option maxHeartbeats 1000000 in
theorem q_QTake_bad (bq bm bk : Nat) (A : List Jb) (tries last now who n : Int) (H : AHeap) (ok : Ok H) (r : QR H bq bm bk A tries last now) (i : QI A tries last now) (h : UH A now who n ≠ 0) :
    CC F.jobs_Queue_Take [.pointer (some ⟨bq, 0, none⟩), .int .i64 who, .int .i64 n] H = some (.tuple #[.agg #[.int .i64 0, .int .i64 0, .string (mk []), .int .i64 0, .int .i64 0, .int .i64 0, .int .i64 0], .int .i64 (UH A now who n)], H) := by
  have hnow := i.n
  obtain ⟨H1, hH1⟩ : ∃ H1, H.push (.cells [.int .i64 0, .int .i64 0, .string (mk []), .int .i64 0, .int .i64 0, .int .i64 0, .int .i64 0] T.api_Job true) = H1 := ⟨_, rfl⟩
  obtain ⟨s1, n1, f1⟩ := Yu hH1
  have r1 := r.still s1
  have m0 := r1.q_none
  have fq := r1.f
  unfold V8 at fq
  obtain ⟨H2, hH2⟩ : ∃ H2, H1.set H.n (.cells [.int .i64 0, .int .i64 0, .string (mk []), .int .i64 0, .int .i64 0, .int .i64 0, .int .i64 0] T.api_Job true) = H2 := ⟨_, rfl⟩
  obtain ⟨s2, n2, f2, _⟩ := YH hH2
  unfold UH at h ⊢
  by_cases h1 : who < 1
  · rw [if_pos (.inl h1)]
    refine Yk (H' := H2) ?_ (Wl _ _ _ H) rfl (s1.then s2 fun b hb h => by omega)
    simp (disch := first | with_reducible rfl | assumption | omega | rfl | (simp only [go_sem]; first | done | omega)) only [go_sem, ↓reduceIte, reduceCtorEq, Nat.reduceEqDiff, Nat.reduceAdd, Nat.reduceSub, Nat.reduceMul, Nat.reduceLeDiff, Nat.reduceLT, Int.reduceEq, Int.reduceLT, Int.reduceLE, Int.reduceAdd, Int.reduceSub, Int.reduceNeg, Int.reduceToNat, Int.reduceMul, ↓YZ, hH1, ↓Ya m0, Ya m0, h1, f1, hH2, f2, XE]
  by_cases h2 : 1000 < who
  · rw [if_pos (.inr (.inl h2))]
    refine Yk (H' := H2) ?_ (Wl _ _ _ H) rfl (s1.then s2 fun b hb h => by omega)
    simp (disch := first | with_reducible rfl | assumption | omega | rfl | (simp only [go_sem]; first | done | omega)) only [go_sem, ↓reduceIte, reduceCtorEq, Nat.reduceEqDiff, Nat.reduceAdd, Nat.reduceSub, Nat.reduceMul, Nat.reduceLeDiff, Nat.reduceLT, Int.reduceEq, Int.reduceLT, Int.reduceLE, Int.reduceAdd, Int.reduceSub, Int.reduceNeg, Int.reduceToNat, Int.reduceMul, ↓YZ, hH1, ↓Ya m0, Ya m0, h1, h2, f1, hH2, f2, XE]
  by_cases h3 : n < 1
  · rw [if_pos (.inr (.inr (.inl h3)))]
    refine Yk (H' := H2) ?_ (Wl _ _ _ H) rfl (s1.then s2 fun b hb h => by omega)
    simp (disch := first | with_reducible rfl | assumption | omega | rfl | (simp only [go_sem]; first | done | omega)) only [go_sem, ↓reduceIte, reduceCtorEq, Nat.reduceEqDiff, Nat.reduceAdd, Nat.reduceSub, Nat.reduceMul, Nat.reduceLeDiff, Nat.reduceLT, Int.reduceEq, Int.reduceLT, Int.reduceLE, Int.reduceAdd, Int.reduceSub, Int.reduceNeg, Int.reduceToNat, Int.reduceMul, ↓YZ, hH1, ↓Ya m0, Ya m0, h1, h2, h3, f1, hH2, f2, XE]
  by_cases h4 : 1099511627776 - now < n
  · rw [if_pos (.inr (.inr (.inr h4)))]
    refine Yk (H' := H2) ?_ (Wl _ _ _ H) rfl (s1.then s2 fun b hb h => by omega)
    simp (disch := first | with_reducible rfl | assumption | omega | rfl | (simp only [go_sem]; first | done | omega)) only [go_sem, ↓reduceIte, reduceCtorEq, Nat.reduceEqDiff, Nat.reduceAdd, Nat.reduceSub, Nat.reduceMul, Nat.reduceLeDiff, Nat.reduceLT, Int.reduceEq, Int.reduceLT, Int.reduceLE, Int.reduceAdd, Int.reduceSub, Int.reduceNeg, Int.reduceToNat, Int.reduceMul, ↓YZ, hH1, ↓Ya m0, Ya m0, h1, h2, h3, fq, h4, f1, hH2, f2, XE]
  rw [if_neg (by omega)] at h ⊢
  by_cases h5 : QX A = []
  · rw [if_pos h5]
    have mn := Gi 1 H1 (by decide) (by decide)
    obtain ⟨H3, hH3⟩ : ∃ H3, H1.push (.cells [.int .i64 1, .int .u64 1, .int .i64 0, .string (mk []), .bool false] T.api_Cell true) = H3 := ⟨_, rfl⟩
    obtain ⟨s3, n3, f3⟩ := Yu hH3
    have hc : Rd ECl H3 (.slice (some ⟨H1.n, 0, none⟩) 1 2) [V7 1] := (newE (E := ECl) (l := [V7 1]) (e := T.api_Cell) (by omega) f3).1
    obtain ⟨v, H4, m4, so⟩ := q_inS bq bm bk A tries last now 1 (by decide) _ H3 (ok.fr (s1.trans s3)) (r1.still s3) i hc
    have hlen := so.own.rd.lenS
    rw [show ((WC A).filter fun j => decide (j.state = 1)) = QX A from rfl, h5] at hlen
    have hlen : lenS v = some (.int .i64 0) := hlen
    have g4 : H4.f H.n = .cells [.int .i64 0, .int .i64 0, .string (mk []), .int .i64 0, .int .i64 0, .int .i64 0, .int .i64 0] T.api_Job true := by rw [(s3.trans so.still).f (by omega) fun h => h]; exact f1
    obtain ⟨H5, hH5⟩ : ∃ H5, H4.set H.n (.cells [.int .i64 0, .int .i64 0, .string (mk []), .int .i64 0, .int .i64 0, .int .i64 0, .int .i64 0] T.api_Job true) = H5 := ⟨_, rfl⟩
    obtain ⟨s5, n5, f5, _⟩ := YH hH5
    refine Yk (H' := H5) ?_ (Wl _ _ _ H) rfl (((s1.trans s3).trans so.still).then s5 fun b hb h => by omega)
    simp (disch := first | with_reducible rfl | assumption | omega | rfl | (simp only [go_sem]; first | done | omega)) only [go_sem, ↓reduceIte, reduceCtorEq, Nat.reduceEqDiff, Nat.reduceAdd, Nat.reduceSub, Nat.reduceMul, Nat.reduceLeDiff, Nat.reduceLT, Int.reduceEq, Int.reduceLT, Int.reduceLE, Int.reduceAdd, Int.reduceSub, Int.reduceNeg, Int.reduceToNat, Int.reduceMul, ↓YZ, hH1, ↓Ya m0, Ya m0, h1, h2, h3, fq, h4, ↓Ya mn, Ya mn, hH3, ↓Ya m4, Ya m4, hlen, g4, hH5, f5, XE]
  · rw [if_neg h5] at h
    exact absurd rfl h
theorem takeJ_ok {j : Jb} (h : JOk j) {now who n : Int} (hw : 1 ≤ who ∧ who ≤ 1000) (hn : 1 ≤ n) (h0 : 0 ≤ now) (hb : now + n ≤ 1099511627776) (ht : j.tries < 100) : JOk (WK j now who n) :=
  ⟨h.id, h.prio, h.body, by show (1 : Int) ≤ 2 ∧ (2 : Int) ≤ 3; omega, by show 0 ≤ j.tries + 1 ∧ j.tries + 1 ≤ 100; have := h.tries; omega, by show 0 ≤ who ∧ who ≤ 1000; omega, by show 0 ≤ now + n ∧ now + n ≤ 1099511627776; omega, fun h => absurd rfl h⟩
set_option maxHeartbeats 2000000 in
theorem q_QTake (bq bm bk : Nat) (A : List Jb) (tries last now who n : Int) (j : Jb) (t : List Jb) (H : AHeap) (ok : Ok H) (r : QR H bq bm bk A tries last now) (i : QI A tries last now) (h : UH A now who n = 0) (hj : QX A = j :: t) :
    ∃ H', CC F.jobs_Queue_Take [.pointer (some ⟨bq, 0, none⟩), .int .i64 who, .int .i64 n] H = some (.tuple #[.agg ⟨(WK j now who n).l⟩, .int .i64 0], H') ∧ QR H' bq bm bk (VN A (WK j now who n)) tries last now ∧ QI (VN A (WK j now who n)) tries last now ∧ UpQ H bq bm bk H' := by
  have hnow := i.n
  have ht := i.t
  have hb : ¬ (who < 1 ∨ 1000 < who ∨ n < 1 ∨ 1099511627776 - now < n) := fun c => by unfold UH at h; rw [if_pos c] at h; cases h
  have h1 : ¬ who < 1 := by omega
  have h2 : ¬ 1000 < who := by omega
  have h3 : ¬ n < 1 := by omega
  have h4 : ¬ 1099511627776 - now < n := by omega
  obtain ⟨hA, hs⟩ := wait_mem hj
  have hok := i.a.ok j hA
  have hw := i.w j hA hs
  have htr := hok.tries
  have hok' : JOk (WK j now who n) := takeJ_ok hok (by omega) (by omega) hnow.1 (by omega) (by omega)
  have hsome : (fnd A (WK j now who n).id).isSome = true := by show (fnd A j.id).isSome = true; rw [Zx i.a.inc hA]; rfl
  obtain ⟨H1, hH1⟩ : ∃ H1, H.push (.cells [.int .i64 0, .int .i64 0, .string (mk []), .int .i64 0, .int .i64 0, .int .i64 0, .int .i64 0] T.api_Job true) = H1 := ⟨_, rfl⟩
  obtain ⟨s1, n1, f1⟩ := Yu hH1
  have r1 := r.still s1
  have m0 := r1.q_none
  have fq := r1.f
  unfold V8 at fq
  have mn := Gi 1 H1 (by decide) (by decide)
  obtain ⟨H3, hH3⟩ : ∃ H3, H1.push (.cells [.int .i64 1, .int .u64 1, .int .i64 0, .string (mk []), .bool false] T.api_Cell true) = H3 := ⟨_, rfl⟩
  obtain ⟨s3, n3, f3⟩ := Yu hH3
  have hc : Rd ECl H3 (.slice (some ⟨H1.n, 0, none⟩) 1 2) [V7 1] := (newE (E := ECl) (l := [V7 1]) (e := T.api_Cell) (by omega) f3).1
  obtain ⟨v, H4, m4, so⟩ := q_inS bq bm bk A tries last now 1 (by decide) _ H3 (ok.fr (s1.trans s3)) (r1.still s3) i hc
  have so : SinceE EJb T.api_Job H3 H4 v (j :: t) := by rw [← hj]; exact so
  have hlen : lenS v = some (.int .i64 ((t.length : Int) + 1)) := so.own.rd.lenS
  have hne : ¬ (t.length : Int) + 1 = 0 := by omega
  obtain ⟨b, o, ix, lb, cb, _⟩ := Vj so.own.rd (i := 0) (by simp)
  have ix : ixS 7 v (.int .i64 0) = some (.pointer (some ⟨b, o, none⟩)) := ix
  have cb : VA (H4.f b) o 7 = some [.int .i64 j.id, .int .i64 j.prio, .string j.body, .int .i64 j.state, .int .i64 j.tries, .int .i64 j.who, .int .i64 j.til] := cb
  obtain ⟨H5, hH5⟩ : ∃ H5, H4.push (.cells [.int .i64 0, .int .i64 0, .string (mk []), .int .i64 0, .int .i64 0, .int .i64 0, .int .i64 0] T.api_Job true) = H5 := ⟨_, rfl⟩
  obtain ⟨s5, n5, f5⟩ := Yu hH5
  obtain ⟨H6, hH6⟩ : ∃ H6, H5.set H4.n (.cells [.int .i64 j.id, .int .i64 j.prio, .string j.body, .int .i64 j.state, .int .i64 j.tries, .int .i64 j.who, .int .i64 j.til] T.api_Job true) = H6 := ⟨_, rfl⟩
  obtain ⟨s6, n6, f6, _⟩ := YH hH6
  obtain ⟨H7, hH7⟩ : ∃ H7, H6.set H4.n (.cells [.int .i64 j.id, .int .i64 j.prio, .string j.body, .int .i64 2, .int .i64 j.tries, .int .i64 j.who, .int .i64 j.til] T.api_Job true) = H7 := ⟨_, rfl⟩
  obtain ⟨s7, n7, f7, _⟩ := YH hH7
  obtain ⟨H8, hH8⟩ : ∃ H8, H7.set H4.n (.cells [.int .i64 j.id, .int .i64 j.prio, .string j.body, .int .i64 2, .int .i64 j.tries, .int .i64 who, .int .i64 j.til] T.api_Job true) = H8 := ⟨_, rfl⟩
  obtain ⟨s8, n8, f8, _⟩ := YH hH8
  obtain ⟨H9, hH9⟩ : ∃ H9, H8.set H4.n (.cells [.int .i64 j.id, .int .i64 j.prio, .string j.body, .int .i64 2, .int .i64 j.tries, .int .i64 who, .int .i64 (now + n)] T.api_Job true) = H9 := ⟨_, rfl⟩
  obtain ⟨s9, n9, f9, _⟩ := YH hH9
  obtain ⟨Ha, hHa⟩ : ∃ Ha, H9.set H4.n (.cells [.int .i64 j.id, .int .i64 j.prio, .string j.body, .int .i64 2, .int .i64 (j.tries + 1), .int .i64 who, .int .i64 (now + n)] T.api_Job true) = Ha := ⟨_, rfl⟩
  obtain ⟨sa, na, fa, _⟩ := YH hHa
  have n4 := so.still.n
  have st4 : Yr H H4 := (s1.trans s3).trans so.still
  have st6 : Yr H H6 := (st4.trans s5).then s6 fun b hb h => by omega
  have st : Yr H Ha := (((st6.then s7 fun b hb h => by omega).then s8 fun b hb h => by omega).then s9 fun b hb h => by omega).then sa fun b hb h => by omega
  have fq6 : H6.f bq = .cells [.pointer (some ⟨bm, 0, none⟩), .map (some bk), .int .i64 tries, .int .i64 last, .int .i64 now] T.jobs_Queue true := (r.still st6).f
  have hbq := r.lt
  have ck1 : okV (some true) (some bq) H6 H7 H6 H6 = true := Qy (.inr (s7.ver (by omega) (by omega))) (.inr (Nat.le_refl _))
  have ck2 : okV (some true) (some bq) H7 H8 H6 H6 = true := Qy (.inr (s8.ver (by omega) (by omega))) (.inr (Nat.le_refl _))
  obtain ⟨Hb, mb, rb, ub⟩ := q_qrep bq bm bk A tries last now (WK j now who n) Ha (ok.fr st) (r.still st) i hok' hsome
  have mb : CC F.jobs_Queue_set [.pointer (some ⟨bq, 0, none⟩), .agg #[.int .i64 j.id, .int .i64 j.prio, .string j.body, .int .i64 2, .int .i64 (j.tries + 1), .int .i64 who, .int .i64 (now + n)]] Ha = some (.int .i64 0, Hb) := mb
  have hQ : ∀ c, H.n ≤ c → ¬ QB Ha bq bm bk c := fun c hc h => by have := r.blk (h.still r.mdl st); omega
  have z0 : Ha.f H.n = .cells [.int .i64 0, .int .i64 0, .string (mk []), .int .i64 0, .int .i64 0, .int .i64 0, .int .i64 0] T.api_Job true := by
    rw [sa.f (by omega) (by omega), s9.f (by omega) (by omega), s8.f (by omega) (by omega), s7.f (by omega) (by omega), s6.f (by omega) (by omega), (s3.trans (so.still.trans s5)).f (by omega) fun h => h]; exact f1
  have zb : Hb.f H.n = .cells [.int .i64 0, .int .i64 0, .string (mk []), .int .i64 0, .int .i64 0, .int .i64 0, .int .i64 0] T.api_Job true := by rw [ub.fr.f (by omega) (hQ _ (by omega))]; exact z0
  have fb : Hb.f H4.n = .cells [.int .i64 j.id, .int .i64 j.prio, .string j.body, .int .i64 2, .int .i64 (j.tries + 1), .int .i64 who, .int .i64 (now + n)] T.api_Job true := by rw [ub.fr.f (by omega) (hQ _ st4.n)]; exact fa
  obtain ⟨Hc, hHc⟩ : ∃ Hc, Hb.set H.n (.cells [.int .i64 j.id, .int .i64 j.prio, .string j.body, .int .i64 2, .int .i64 (j.tries + 1), .int .i64 who, .int .i64 (now + n)] T.api_Job true) = Hc := ⟨_, rfl⟩
  obtain ⟨sc, nc, fc, _⟩ := YH hHc
  have ub' := UpQ.pre r st ub
  have hQb : ¬ QB Hb bq bm bk H.n := fun h => by
    rcases h with h | h | h
    · omega
    · have := r.klt; omega
    · rcases ub'.mb _ h with h | h
      · have := r.mdl.blk h; omega
      · rcases ub.mb _ ‹_› with h' | h'
        · exact hQ _ (Nat.le_refl _) (.inr (.inr h'))
        · have := st.n; omega
  obtain ⟨uc, rc⟩ := ub'.post rb sc fun c hc => ⟨by omega, by rw [hc]; exact hQb⟩
  obtain ⟨Hd, t1, t2, t3⟩ := QR.tidy (v := .tuple #[.agg ⟨(WK j now who n).l⟩, .int .i64 0]) ok r rc uc
  refine ⟨Hd, (Wl _ _ _ H (r := (.tuple #[.agg ⟨(WK j now who n).l⟩, .int .i64 0], Hc)) ?_).trans (congrArg some t1), t2, i.rep hok' hsome (fun h => by cases h), t3⟩
  show YZ _ _ _ _ _ _ _ _ _ _ = some (.tuple #[.agg #[.int .i64 j.id, .int .i64 j.prio, .string j.body, .int .i64 2, .int .i64 (j.tries + 1), .int .i64 who, .int .i64 (now + n)], .int .i64 0], Hc)
  simp (disch := first | with_reducible rfl | assumption | omega | rfl | (simp only [go_sem]; first | done | omega)) only [go_sem, ↓reduceIte, reduceCtorEq, Nat.reduceEqDiff, Nat.reduceAdd, Nat.reduceSub, Nat.reduceMul, Nat.reduceLeDiff, Nat.reduceLT, Int.reduceEq, Int.reduceLT, Int.reduceLE, Int.reduceAdd, Int.reduceSub, Int.reduceNeg, Int.reduceToNat, Int.reduceMul, ↓YZ, hH1, ↓Ya m0, Ya m0, h1, h2, h3, fq, h4, ↓Ya mn, Ya mn, hH3, ↓Ya m4, Ya m4, hlen, hne, ix, cb, hH5, f5, hH6, f6, fq6, hH7, f7, hH8, f8, hH9, f9, hHa, fa, ck1, ck2, ↓Ya mb, Ya mb, zb, fb, hHc, fc, XE]
end Go.Proofs.YtmiinbhnfojnbaaGreatDoor

set_option maxRecDepth 10000
namespace Go.Proofs.YtmiinbhnfojnbaaGreatDoor
open Go Eng
attribute [local congr] YO YM YI
def dueJ (tick : Int) (a : Jb) : Bool := decide (a.til ≤ tick)
def passJ (A : List Jb) (tries tick : Int) : List Jb := A.map fun a => if a.state = 2 ∧ a.til ≤ tick then XK tries a else a
theorem while_filter {tick : Int} : ∀ {l : List Jb}, l.Pairwise (fun a b => a.til ≤ b.til) → l.takeWhile (dueJ tick) = l.filter (dueJ tick)
  | [], _ => rfl
  | a :: l, h => by
    obtain ⟨h1, h2⟩ := List.pairwise_cons.1 h
    by_cases hd : dueJ tick a = true
    · rw [List.takeWhile_cons_of_pos hd, List.filter_cons_of_pos hd, while_filter h2]
    · rw [List.takeWhile_cons_of_neg hd, List.filter_cons_of_neg hd]
      symm
      rw [List.filter_eq_nil_iff]
      intro b hb
      have := h1 b hb
      unfold dueJ at hd ⊢
      simp only [decide_eq_true_eq] at hd ⊢
      omega
theorem fold_rep (tries : Int) : ∀ (F A : List Jb), A.Pairwise (fun a b => a.id < b.id) → (∀ j ∈ F, fnd A j.id = some j) → F.Pairwise (fun a b => a.id ≠ b.id) →
    F.foldl (fun A j => VN A (XK tries j)) A = A.map fun a => if a ∈ F then XK tries a else a
  | [], A, _, _, _ => by simp
  | j :: F, A, hA, hF, hp => by
    obtain ⟨h1, h2⟩ := List.pairwise_cons.1 hp
    obtain ⟨hj, _⟩ := X4 (hF j (by simp))
    rw [List.foldl_cons, fold_rep tries F (VN A (XK tries j)) (inc_ids (ids_rep A _) hA) (fun x hx => by rw [fnd_rep_ne (j := XK tries j) (fun e => h1 x hx e.symm)]; exact hF x (by simp [hx])) h2]
    unfold VN
    rw [List.map_map]
    apply List.map_congr_left
    intro a ha
    simp only [Function.comp]
    by_cases e : a.id = j.id
    · have e' : a = j := Zj hA ha hj e
      subst e'
      have hn : XK tries a ∉ F := fun h => h1 _ h rfl
      rw [if_pos (show a.id = (XK tries a).id from rfl), if_neg hn, if_pos (by simp)]
    · rw [if_neg (show ¬ a.id = (XK tries j).id from e)]
      have : a ∈ j :: F ↔ a ∈ F := by
        rw [List.mem_cons]
        exact ⟨fun h => h.resolve_left fun h => e (by rw [h]), .inr⟩
      by_cases hm : a ∈ F
      · rw [if_pos hm, if_pos (this.2 hm)]
      · rw [if_neg hm, if_neg (fun h => hm (this.1 h))]
set_option maxHeartbeats 1000000 in
theorem l_pass (bq bm bk : Nat) (tries last tick : Int) (L : List Jb) (hL : L.length ≤ 1000) (hok : ∀ j ∈ L, JOk j) (v : Value) (H0 : AHeap) (hv : Rd EJb H0 v L) (hoff : ∀ b, Ye v = some b → ¬ QB H0 bq bm bk b) :
    ∀ (t : List Jb) (i : Nat) (H : AHeap) (A : List Jb), L.drop i = t → Ok H → QR H bq bm bk A tries last tick → QI A tries last tick → UpQ H0 bq bm bk H → (∀ j ∈ t, fnd A j.id = some j) → t.Pairwise (fun a b => a.id ≠ b.id) →
    ∃ H', QR H' bq bm bk ((t.takeWhile (dueJ tick)).foldl (fun A j => VN A (XK tries j)) A) tries last tick ∧ QI ((t.takeWhile (dueJ tick)).foldl (fun A j => VN A (XK tries j)) A) tries last tick ∧ UpQ H0 bq bm bk H' ∧
      ∀ K : K, Xo (.pointer (some ⟨bq, 0, none⟩)) (.int .i64 tick) v (.int .i64 (L.length : Int)) (.int .i64 (i : Int)) H (YB [] 1 K) = K .normal [] H'
  | [], i, H, A, hx, ok, r, qi, u, hf, hp => by
    have h : L.length ≤ i := List.drop_eq_nil_iff.1 hx
    have hlt : ¬ (i : Int) < (L.length : Int) := by omega
    refine ⟨H, r, qi, u, fun K => ?_⟩
    rw [Um]
    simp (disch := first | with_reducible rfl | assumption | omega | rfl | (simp only [go_sem]; first | done | omega)) only [go_sem, ↓reduceIte, reduceCtorEq, Nat.reduceEqDiff, Nat.reduceAdd, Nat.reduceSub, Nat.reduceMul, Nat.reduceLeDiff, Nat.reduceLT, Int.reduceEq, Int.reduceLT, Int.reduceLE, Int.reduceAdd, Int.reduceSub, Int.reduceNeg, Int.reduceToNat, Int.reduceMul, ↓Wd, hlt]
  | j :: t, i, H, A, hx, ok, r, qi, u, hf, hp => by
    obtain ⟨h, hxa, hx'⟩ := Xt hx
    have hlt : (i : Int) < (L.length : Int) := by omega
    obtain ⟨hp1, hp2⟩ := List.pairwise_cons.1 hp
    have hjf := hf j (by simp)
    have hj := hok j (by rw [← hxa]; exact List.getElem_mem h)
    have hv1 : Rd EJb H v L := hv.keep u.fr hoff
    obtain ⟨b, o, ix, lb, cb, _⟩ := Vj hv1 h
    rw [hxa] at cb
    have cb : VA (H.f b) o 7 = some [.int .i64 j.id, .int .i64 j.prio, .string j.body, .int .i64 j.state, .int .i64 j.tries, .int .i64 j.who, .int .i64 j.til] := cb
    obtain ⟨H1, hH1⟩ : ∃ H1, H.push (.cells [.int .i64 0, .int .i64 0, .string (mk []), .int .i64 0, .int .i64 0, .int .i64 0, .int .i64 0] T.api_Job true) = H1 := ⟨_, rfl⟩
    obtain ⟨s1, n1, f1⟩ := Yu hH1
    obtain ⟨H2, hH2⟩ : ∃ H2, H1.set H.n (.cells [.int .i64 j.id, .int .i64 j.prio, .string j.body, .int .i64 j.state, .int .i64 j.tries, .int .i64 j.who, .int .i64 j.til] T.api_Job true) = H2 := ⟨_, rfl⟩
    obtain ⟨s2, n2, f2, _⟩ := YH hH2
    have st : Yr H H2 := s1.then s2 fun b hb h => by omega
    have e1 : ((i : Int) + 1) = ((i + 1 : Nat) : Int) := by omega
    by_cases c : tick < j.til
    · have hd : ¬ dueJ tick j = true := by unfold dueJ; simp only [decide_eq_true_eq]; omega
      refine ⟨H2, ?_, ?_, u.trans (UpQ.of_still r st), fun K => ?_⟩
      · rw [List.takeWhile_cons_of_neg hd]; exact r.still st
      · rw [List.takeWhile_cons_of_neg hd]; exact qi
      · rw [Um]
        simp (disch := first | with_reducible rfl | assumption | omega | rfl | (simp only [go_sem]; first | done | omega)) only [go_sem, ↓reduceIte, reduceCtorEq, Nat.reduceEqDiff, Nat.reduceAdd, Nat.reduceSub, Nat.reduceMul, Nat.reduceLeDiff, Nat.reduceLT, Int.reduceEq, Int.reduceLT, Int.reduceLE, Int.reduceAdd, Int.reduceSub, Int.reduceNeg, Int.reduceToNat, Int.reduceMul, ↓Wd, hlt, ix, cb, hH1, f1, hH2, f2, c]
    · have hd : dueJ tick j = true := by unfold dueJ; simp only [decide_eq_true_eq]; omega
      obtain ⟨H3, m3, r3, i3, u3⟩ := q_Qback bq bm bk A tries last tick j H2 (ok.fr st) (r.still st) qi hj (by rw [hjf]; rfl)
      have u' := u.trans (UpQ.pre r st u3)
      obtain ⟨H', r', i', u'', e'⟩ := l_pass bq bm bk tries last tick L hL hok v H0 hv hoff t (i + 1) H3 (VN A (XK tries j)) hx' ((ok.fr st).fr u3.fr) r3 i3 u' (fun x hx => by
        rw [fnd_rep_ne (j := XK tries j) (fun e => hp1 x hx e.symm)]; exact hf x (by simp [hx])) hp2
      refine ⟨H', by rw [List.takeWhile_cons_of_pos hd]; exact r', by rw [List.takeWhile_cons_of_pos hd]; exact i', u'', fun K => ?_⟩
      have e' := e' K
      rw [← e1] at e'
      rw [Um]
      simp (disch := first | with_reducible rfl | assumption | omega | rfl | (simp only [go_sem]; first | done | omega)) only [go_sem, ↓reduceIte, reduceCtorEq, Nat.reduceEqDiff, Nat.reduceAdd, Nat.reduceSub, Nat.reduceMul, Nat.reduceLeDiff, Nat.reduceLT, Int.reduceEq, Int.reduceLT, Int.reduceLE, Int.reduceAdd, Int.reduceSub, Int.reduceNeg, Int.reduceToNat, Int.reduceMul, ↓Wd, hlt, ix, cb, hH1, f1, hH2, f2, c, ↓Ya m3, Ya m3]
      exact e'
def Z4 (now tick : Int) : Int := if tick < 0 ∨ 1099511627776 < tick then 2 else if tick < now then 14 else 0
theorem q_QPass_bad (bq bm bk : Nat) (A : List Jb) (tries last now tick : Int) (H : AHeap) (r : QR H bq bm bk A tries last now) (h : Z4 now tick ≠ 0) :
    CC F.jobs_Queue_Pass [.pointer (some ⟨bq, 0, none⟩), .int .i64 tick] H = some (.int .i64 (Z4 now tick), H) := by
  have m0 := r.q_none
  have fq := r.f
  unfold V8 at fq
  unfold Z4 at h ⊢
  by_cases h1 : tick < 0
  · rw [if_pos (.inl h1)]
    apply Yk _ (VT _ _ H) rfl
    rotate_left 2
    · simp (disch := first | with_reducible rfl | assumption | omega | rfl | (simp only [go_sem]; first | done | omega)) only [go_sem, ↓reduceIte, reduceCtorEq, Nat.reduceEqDiff, Nat.reduceAdd, Nat.reduceSub, Nat.reduceMul, Nat.reduceLeDiff, Nat.reduceLT, Int.reduceEq, Int.reduceLT, Int.reduceLE, Int.reduceAdd, Int.reduceSub, Int.reduceNeg, Int.reduceToNat, Int.reduceMul, ↓Xq, ↓Ya m0, Ya m0, h1]
      rfl
    · (repeat (first | exact Fr.refl _ | refine Fr.push ?_ _ | refine Fr.set ?_ _ _ (by intro h; first | omega | (simp only [go_sem] at h; omega))))
  by_cases h2 : 1099511627776 < tick
  · rw [if_pos (.inr h2)]
    apply Yk _ (VT _ _ H) rfl
    rotate_left 2
    · simp (disch := first | with_reducible rfl | assumption | omega | rfl | (simp only [go_sem]; first | done | omega)) only [go_sem, ↓reduceIte, reduceCtorEq, Nat.reduceEqDiff, Nat.reduceAdd, Nat.reduceSub, Nat.reduceMul, Nat.reduceLeDiff, Nat.reduceLT, Int.reduceEq, Int.reduceLT, Int.reduceLE, Int.reduceAdd, Int.reduceSub, Int.reduceNeg, Int.reduceToNat, Int.reduceMul, ↓Xq, ↓Ya m0, Ya m0, h1, h2]
      rfl
    · (repeat (first | exact Fr.refl _ | refine Fr.push ?_ _ | refine Fr.set ?_ _ _ (by intro h; first | omega | (simp only [go_sem] at h; omega))))
  rw [if_neg (by omega)] at h ⊢
  by_cases h3 : tick < now
  · rw [if_pos h3]
    apply Yk _ (VT _ _ H) rfl
    rotate_left 2
    · simp (disch := first | with_reducible rfl | assumption | omega | rfl | (simp only [go_sem]; first | done | omega)) only [go_sem, ↓reduceIte, reduceCtorEq, Nat.reduceEqDiff, Nat.reduceAdd, Nat.reduceSub, Nat.reduceMul, Nat.reduceLeDiff, Nat.reduceLT, Int.reduceEq, Int.reduceLT, Int.reduceLE, Int.reduceAdd, Int.reduceSub, Int.reduceNeg, Int.reduceToNat, Int.reduceMul, ↓Xq, ↓Ya m0, Ya m0, h1, h2, fq, h3]
      rfl
    · (repeat (first | exact Fr.refl _ | refine Fr.push ?_ _ | refine Fr.set ?_ _ _ (by intro h; first | omega | (simp only [go_sem] at h; omega))))
  · rw [if_neg h3] at h
    exact absurd rfl h
theorem pass_fold {A : List Jb} {n : Int} (h : AOk A n) (tries tick : Int) :
    (((WC A).filter fun j => decide (j.state = 2)).takeWhile (dueJ tick)).foldl (fun A j => VN A (XK tries j)) A = passJ A tries tick := by
  have hs := h.sj
  have hF : ((WC A).filter fun j => decide (j.state = 2)).Pairwise fun a b => Ze a b = true := hs.sublist List.filter_sublist
  have hst : ∀ a ∈ (WC A).filter fun j => decide (j.state = 2), a.state = 2 := fun a ha => by simpa using (List.mem_filter.1 ha).2
  have hm : ∀ a ∈ (WC A).filter fun j => decide (j.state = 2), a ∈ A := fun a ha => US.1 (List.mem_filter.1 ha).1
  have ht : ((WC A).filter fun j => decide (j.state = 2)).Pairwise fun a b => a.til ≤ b.til := by
    refine hF.imp_of_mem fun {a b} ha hb hab => ?_
    have h1 := hst a ha
    have h2 := hst b hb
    rw [Z1] at hab
    unfold V3 at hab
    rw [if_neg (by omega), if_pos h1, if_neg (by omega), if_pos h2] at hab
    omega
  have hn : ((WC A).filter fun j => decide (j.state = 2)).Pairwise fun a b => a.id ≠ b.id := by
    refine hF.imp_of_mem fun {a b} ha hb hab e => ?_
    have := Zj h.inc (hm a ha) (hm b hb) e
    rw [this, befJ_irr] at hab
    cases hab
  rw [while_filter ht, fold_rep tries _ A h.inc (fun j hj => Zx h.inc (hm j (List.mem_filter.1 hj).1)) (hn.sublist List.filter_sublist)]
  unfold passJ
  apply List.map_congr_left
  intro a ha
  have : a ∈ ((WC A).filter fun j => decide (j.state = 2)).filter (dueJ tick) ↔ a.state = 2 ∧ a.til ≤ tick := by
    rw [List.mem_filter, List.mem_filter, US]
    unfold dueJ
    simp only [decide_eq_true_eq]
    exact ⟨fun h => ⟨h.1.2, h.2⟩, fun h => ⟨⟨ha, h.1⟩, h.2⟩⟩
  by_cases hc : a.state = 2 ∧ a.til ≤ tick
  · rw [if_pos hc, if_pos (this.2 hc)]
  · rw [if_neg hc, if_neg fun h => hc (this.1 h)]
set_option maxHeartbeats 1000000 in
theorem q_QPass (bq bm bk : Nat) (A : List Jb) (tries last now tick : Int) (H : AHeap) (ok : Ok H) (r : QR H bq bm bk A tries last now) (i : QI A tries last now) (h : Z4 now tick = 0) :
    ∃ H', CC F.jobs_Queue_Pass [.pointer (some ⟨bq, 0, none⟩), .int .i64 tick] H = some (.int .i64 0, H') ∧ QR H' bq bm bk (passJ A tries tick) tries last tick ∧ QI (passJ A tries tick) tries last tick ∧ UpQ H bq bm bk H' := by
  have hb : ¬ (tick < 0 ∨ 1099511627776 < tick) := fun c => by unfold Z4 at h; rw [if_pos c] at h; cases h
  have h3 : ¬ tick < now := fun c => by unfold Z4 at h; rw [if_neg hb, if_pos c] at h; cases h
  have h1 : ¬ tick < 0 := by omega
  have h2 : ¬ 1099511627776 < tick := by omega
  have m0 := r.q_none
  have fq := r.f
  unfold V8 at fq
  obtain ⟨H1, hH1⟩ : ∃ H1, H.set bq (.cells [.pointer (some ⟨bm, 0, none⟩), .map (some bk), .int .i64 tries, .int .i64 last, .int .i64 tick] T.jobs_Queue true) = H1 := ⟨_, rfl⟩
  obtain ⟨r1, u1⟩ := r.setq hH1
  obtain ⟨_, _, f1, v1⟩ := YH hH1
  have ok1 := ok.fr u1.fr
  have i1 : QI A tries last tick := ⟨i.a, i.t, i.l, by omega, i.w⟩
  have mn := Gi 2 H1 (by decide) (by decide)
  obtain ⟨H2, hH2⟩ : ∃ H2, H1.push (.cells [.int .i64 1, .int .u64 2, .int .i64 0, .string (mk []), .bool false] T.api_Cell true) = H2 := ⟨_, rfl⟩
  obtain ⟨s2, n2, f2⟩ := Yu hH2
  have hc : Rd ECl H2 (.slice (some ⟨H1.n, 0, none⟩) 1 2) [V7 2] := (newE (E := ECl) (l := [V7 2]) (e := T.api_Cell) (by omega) f2).1
  obtain ⟨v, H3, m3, so⟩ := q_inS bq bm bk A tries last tick 2 (by decide) _ H2 (ok1.fr s2) (r1.still s2) i1 hc
  have st := s2.trans so.still
  have r3 := r1.still st
  have hlen := so.own.rd.lenS
  have hm : ∀ a ∈ (WC A).filter fun j => decide (j.state = 2), a ∈ A := fun a ha => US.1 (List.mem_filter.1 ha).1
  have hll : ((WC A).filter fun j => decide (j.state = 2)).length ≤ 1000 := by
    have := List.length_filter_le (fun j : Jb => decide (j.state = 2)) (WC A)
    rw [len_srt] at this
    have := i.len
    omega
  have hn : ((WC A).filter fun j => decide (j.state = 2)).Pairwise fun a b => a.id ≠ b.id := by
    have hF : ((WC A).filter fun j => decide (j.state = 2)).Pairwise fun a b => Ze a b = true := i.a.sj.sublist List.filter_sublist
    refine hF.imp_of_mem fun {a b} ha hb hab e => ?_
    have := Zj i.a.inc (hm a ha) (hm b hb) e
    rw [this, befJ_irr] at hab
    cases hab
  obtain ⟨H4, r4, i4, u4, e4⟩ := l_pass bq bm bk tries last tick _ hll (fun j hj => i.a.ok j (hm j hj)) v H3 so.own.rd (fun b hb h => by
    have h1 := so.new b hb
    have h2 := (r1.still s2).blk (h.still (r1.still s2).mdl so.still)
    omega) _ 0 H3 A (by simp) (ok1.fr st) r3 i1 (UpQ.refl _ _ _ _) (fun j hj => Zx i.a.inc (hm j hj)) hn
  rw [pass_fold i.a] at r4 i4
  have u14 := u1.trans (UpQ.pre r1 st u4)
  obtain ⟨H5, t1, t2, t3⟩ := QR.tidy (v := .int .i64 0) ok r r4 u14
  refine ⟨H5, (VT _ _ H (r := (.int .i64 0, H4)) ?_).trans (congrArg some t1), t2, i4, t3⟩
  generalize ((WC A).filter fun j => decide (j.state = 2)) = L at hlen e4
  have e4 : ∀ K : K, Xo (.pointer (some ⟨bq, 0, none⟩)) (.int .i64 tick) v (.int .i64 (L.length : Int)) (.int .i64 0) H3 (YB [] 1 K) = K .normal [] H4 := e4
  simp (disch := first | with_reducible rfl | assumption | omega | rfl | (simp only [go_sem]; first | done | omega)) only [go_sem, ↓reduceIte, reduceCtorEq, Nat.reduceEqDiff, Nat.reduceAdd, Nat.reduceSub, Nat.reduceMul, Nat.reduceLeDiff, Nat.reduceLT, Int.reduceEq, Int.reduceLT, Int.reduceLE, Int.reduceAdd, Int.reduceSub, Int.reduceNeg, Int.reduceToNat, Int.reduceMul, ↓Xq, ↓Ya m0, Ya m0, h1, h2, fq, h3, hH1, ↓Ya mn, Ya mn, hH2, ↓Ya m3, Ya m3, hlen, e4]
end Go.Proofs.YtmiinbhnfojnbaaGreatDoor

set_option maxRecDepth 10000
namespace Go.Proofs.YtmiinbhnfojnbaaGreatDoor
open Go Eng
attribute [local congr] YO YM YI
theorem ceqs_job (a b : Jb) : ceqs a.l b.l = decide (a = b) := by
  obtain ⟨a1, a2, a3, a4, a5, a6, a7⟩ := a
  obtain ⟨b1, b2, b3, b4, b5, b6, b7⟩ := b
  have hs : (bl a3 = bl b3) = (a3 = b3) := propext ⟨fun h => Eng.bl_inj h, fun h => by rw [h]⟩
  simp only [Jb.l, ceqs, ceq, Jb.mk.injEq]
  apply Bool.eq_iff_iff.2
  simp [hs]
theorem job_eq' {ox oy : Operand} (a b : Jb) : Yh Tryz.prog .eql T.api_Job ox oy (.agg ⟨a.l⟩) (.agg ⟨b.l⟩) = some (.bool (decide (a = b))) := by
  have h := agg_eq (P := Tryz.prog) (t := T.api_Job) (xs := a.l) (ys := b.l) (ox := ox) (oy := oy) Tryz.underlying43 (by kernel_rfl) (by kernel_rfl) (by kernel_rfl) rfl rfl
  rw [h, ceqs_job]
theorem job_ne' {ox oy : Operand} (a b : Jb) : Yh Tryz.prog .neq T.api_Job ox oy (.agg ⟨a.l⟩) (.agg ⟨b.l⟩) = some (.bool (!decide (a = b))) := by
  have h := agg_ne (P := Tryz.prog) (t := T.api_Job) (xs := a.l) (ys := b.l) (ox := ox) (oy := oy) Tryz.underlying43 (by kernel_rfl) (by kernel_rfl) (by kernel_rfl) rfl rfl
  rw [h, ceqs_job]
theorem job_same {ox oy : Operand} (a : Jb) : Yh Tryz.prog .eql T.api_Job ox oy (.agg #[.int .i64 a.id, .int .i64 a.prio, .string a.body, .int .i64 a.state, .int .i64 a.tries, .int .i64 a.who, .int .i64 a.til]) (.agg #[.int .i64 a.id, .int .i64 a.prio, .string a.body, .int .i64 a.state, .int .i64 a.tries, .int .i64 a.who, .int .i64 a.til]) = some (.bool true) := by
  have := job_eq' (ox := ox) (oy := oy) a a
  rw [decide_eq_true rfl] at this
  exact this
theorem Jb.lit (a : Jb) : Value.agg ⟨a.l⟩ = .agg #[.int .i64 a.id, .int .i64 a.prio, .string a.body, .int .i64 a.state, .int .i64 a.tries, .int .i64 a.who, .int .i64 a.til] := rfl
theorem q_puts_of {H H' : AHeap} {p : Value} {prio n e : Int} {body : ByteArray} (m : CC F.jobs_Queue_Put [p, .int .i64 prio, .string body] H = some (.tuple #[.int .i64 n, .int .i64 e], H')) :
    CC F.law_puts [p, .int .i64 prio, .string body, .int .i64 n, .int .i64 e] H = some (tidy H (.bool true, H')) := by
  refine d_law_puts _ _ _ _ _ H (r := (.bool true, H')) ?_
  simp (disch := first | with_reducible rfl | assumption | omega | rfl | (simp only [go_sem]; first | done | omega)) only [go_sem, ↓reduceIte, reduceCtorEq, Nat.reduceAdd, Nat.reduceMul, Nat.reduceLT, Int.reduceEq, Int.reduceLT, Int.reduceLE, Int.reduceAdd, Int.reduceToNat, ↓Zg, ↓Ya m, Ya m]
theorem q_takes_of {H H1 H2 : AHeap} {p : Value} {who n e : Int} (j : Jb) (hH1 : H.push (.cells [.int .i64 j.id, .int .i64 j.prio, .string j.body, .int .i64 j.state, .int .i64 j.tries, .int .i64 j.who, .int .i64 j.til] T.api_Job true) = H1) (m : CC F.jobs_Queue_Take [p, .int .i64 who, .int .i64 n] H1 = some (.tuple #[.agg #[.int .i64 j.id, .int .i64 j.prio, .string j.body, .int .i64 j.state, .int .i64 j.tries, .int .i64 j.who, .int .i64 j.til], .int .i64 e], H2))
    (n2 : H1.n ≤ H2.n) (f2 : H2.f H.n = .cells [.int .i64 j.id, .int .i64 j.prio, .string j.body, .int .i64 j.state, .int .i64 j.tries, .int .i64 j.who, .int .i64 j.til] T.api_Job true) :
    ∃ H4, CC F.law_takes [p, .int .i64 who, .int .i64 n, .agg #[.int .i64 j.id, .int .i64 j.prio, .string j.body, .int .i64 j.state, .int .i64 j.tries, .int .i64 j.who, .int .i64 j.til], .int .i64 e] H = some (tidy H (.bool true, H4)) ∧ Yr H2 H4 := by
  obtain ⟨s1, n1, f1⟩ := Yu hH1
  obtain ⟨H3, hH3⟩ : ∃ H3, H2.push (.cells [.int .i64 0, .int .i64 0, .string (Eng.mk []), .int .i64 0, .int .i64 0, .int .i64 0, .int .i64 0] T.api_Job true) = H3 := ⟨_, rfl⟩
  obtain ⟨s3, n3, f3⟩ := Yu hH3
  obtain ⟨H4, hH4⟩ : ∃ H4, H3.set H2.n (.cells [.int .i64 j.id, .int .i64 j.prio, .string j.body, .int .i64 j.state, .int .i64 j.tries, .int .i64 j.who, .int .i64 j.til] T.api_Job true) = H4 := ⟨_, rfl⟩
  obtain ⟨s4, n4, f4, _⟩ := YH hH4
  have g4 : H4.f H.n = .cells [.int .i64 j.id, .int .i64 j.prio, .string j.body, .int .i64 j.state, .int .i64 j.tries, .int .i64 j.who, .int .i64 j.til] T.api_Job true := by rw [s4.f (by omega) (by omega), s3.f (by omega) fun h => h]; exact f2
  have je : ∀ ox oy, Yh Tryz.prog .eql T.api_Job ox oy (.agg #[.int .i64 j.id, .int .i64 j.prio, .string j.body, .int .i64 j.state, .int .i64 j.tries, .int .i64 j.who, .int .i64 j.til]) (.agg #[.int .i64 j.id, .int .i64 j.prio, .string j.body, .int .i64 j.state, .int .i64 j.tries, .int .i64 j.who, .int .i64 j.til]) = some (.bool true) := fun ox oy => job_same j
  refine ⟨H4, d_law_takes _ _ _ _ _ H (r := (.bool true, H4)) ?_, s3.then s4 fun b hb h => by omega⟩
  simp (disch := first | with_reducible rfl | assumption | omega | rfl | (simp only [go_sem]; first | done | omega)) only [go_sem, ↓reduceIte, reduceCtorEq, Nat.reduceAdd, Nat.reduceMul, Nat.reduceLT, Int.reduceEq, Int.reduceLT, Int.reduceLE, Int.reduceAdd, Int.reduceToNat, ↓QM, hH1, ↓Ya m, Ya m, hH3, f3, hH4, f4, g4, je]
theorem q_gets_of {H H1 H2 : AHeap} {p : Value} {id e : Int} (j : Jb) (hH1 : H.push (.cells [.int .i64 j.id, .int .i64 j.prio, .string j.body, .int .i64 j.state, .int .i64 j.tries, .int .i64 j.who, .int .i64 j.til] T.api_Job true) = H1) (m : CC F.jobs_Queue_Get [p, .int .i64 id] H1 = some (.tuple #[.agg #[.int .i64 j.id, .int .i64 j.prio, .string j.body, .int .i64 j.state, .int .i64 j.tries, .int .i64 j.who, .int .i64 j.til], .int .i64 e], H1)) :
    CC F.law_gets [p, .int .i64 id, .agg #[.int .i64 j.id, .int .i64 j.prio, .string j.body, .int .i64 j.state, .int .i64 j.tries, .int .i64 j.who, .int .i64 j.til], .int .i64 e] H = some (.bool true, H) := by
  obtain ⟨s1, n1, f1⟩ := Yu hH1
  obtain ⟨H3, hH3⟩ : ∃ H3, H1.push (.cells [.int .i64 0, .int .i64 0, .string (Eng.mk []), .int .i64 0, .int .i64 0, .int .i64 0, .int .i64 0] T.api_Job true) = H3 := ⟨_, rfl⟩
  obtain ⟨s3, n3, f3⟩ := Yu hH3
  obtain ⟨H4, hH4⟩ : ∃ H4, H3.set H1.n (.cells [.int .i64 j.id, .int .i64 j.prio, .string j.body, .int .i64 j.state, .int .i64 j.tries, .int .i64 j.who, .int .i64 j.til] T.api_Job true) = H4 := ⟨_, rfl⟩
  obtain ⟨s4, n4, f4, _⟩ := YH hH4
  have g4 : H4.f H.n = .cells [.int .i64 j.id, .int .i64 j.prio, .string j.body, .int .i64 j.state, .int .i64 j.tries, .int .i64 j.who, .int .i64 j.til] T.api_Job true := by rw [s4.f (by omega) (by omega), s3.f (by omega) fun h => h]; exact f1
  have je : ∀ ox oy, Yh Tryz.prog .eql T.api_Job ox oy (.agg #[.int .i64 j.id, .int .i64 j.prio, .string j.body, .int .i64 j.state, .int .i64 j.tries, .int .i64 j.who, .int .i64 j.til]) (.agg #[.int .i64 j.id, .int .i64 j.prio, .string j.body, .int .i64 j.state, .int .i64 j.tries, .int .i64 j.who, .int .i64 j.til]) = some (.bool true) := fun ox oy => job_same j
  refine Yk (H' := H4) ?_ (d_law_gets _ _ _ _ H) rfl ((s1.trans s3).then s4 fun b hb h => by omega)
  simp (disch := first | with_reducible rfl | assumption | omega | rfl | (simp only [go_sem]; first | done | omega)) only [go_sem, ↓reduceIte, reduceCtorEq, Nat.reduceAdd, Nat.reduceMul, Nat.reduceLT, Int.reduceEq, Int.reduceLT, Int.reduceLE, Int.reduceAdd, Int.reduceToNat, ↓Zf, hH1, ↓Ya m, Ya m, hH3, f3, hH4, f4, g4, je]
section
variable {H : AHeap} {bq bm bk : Nat} {A : List Jb} {tries last now : Int}
structure QS (H : AHeap) (bq bm bk : Nat) (A : List Jb) (tries last now : Int) : Prop where
  ok : Ok H
  r : QR H bq bm bk A tries last now
  i : QI A tries last now
theorem QS.still {H' : AHeap} (q : QS H bq bm bk A tries last now) (s : Yr H H') : QS H' bq bm bk A tries last now := ⟨q.ok.fr s, q.r.still s, q.i⟩
theorem QS.puts (q : QS H bq bm bk A tries last now) (hl : last < 900) (prio : Int) (body : ByteArray) (h : U6 prio body = 0) :
    ∃ H', CC F.law_puts [.pointer (some ⟨bq, 0, none⟩), .int .i64 prio, .string body, .int .i64 (last + 1), .int .i64 0] H = some (.bool true, H') ∧ QS H' bq bm bk (A ++ [newJ (last + 1) prio body]) tries (last + 1) now ∧ UpQ H bq bm bk H' := by
  have hb : ¬ (prio < 0 ∨ 9 < prio) := fun c => by unfold U6 at h; rw [if_pos c] at h; cases h
  have hc : ¬ 15 < (bl body).length := fun c => by unfold U6 at h; rw [if_neg hb, if_pos c] at h; cases h
  obtain ⟨H1, m1, r1, u1⟩ := q_QPut bq bm bk A tries last now prio body H q.ok q.r q.i hl (by omega) (by omega)
  obtain ⟨H2, t1, t2, t3⟩ := QR.tidy (v := .bool true) q.ok q.r r1 u1
  have hll := q.i.l
  have ht := q.i.t
  refine ⟨H2, (q_puts_of m1).trans (congrArg some t1), ⟨q.ok.fr t3.fr, t2, q.i.a.put (newJ_ok (by omega) (by omega) (by omega)) rfl, q.i.t, by omega, q.i.n, fun a ha hs => ?_⟩, t3⟩
  rcases List.mem_append.1 ha with h1 | h1
  · exact q.i.w a h1 hs
  · rw [List.mem_singleton.1 h1]; show (0 : Int) < tries; omega
theorem QS.putsBad (q : QS H bq bm bk A tries last now) (prio : Int) (body : ByteArray) (h : U6 prio body ≠ 0) :
    CC F.law_puts [.pointer (some ⟨bq, 0, none⟩), .int .i64 prio, .string body, .int .i64 0, .int .i64 (U6 prio body)] H = some (.bool true, H) := by
  rw [q_puts_of (q_QPut_bad bq bm bk A tries last now prio body H q.r h), tidy_same rfl (Fr.refl H)]
theorem QS.gets (q : QS H bq bm bk A tries last now) (id : Int) (j : Jb) (h : fnd A id = some j) : CC F.law_gets [.pointer (some ⟨bq, 0, none⟩), .int .i64 id, .agg #[.int .i64 j.id, .int .i64 j.prio, .string j.body, .int .i64 j.state, .int .i64 j.tries, .int .i64 j.who, .int .i64 j.til], .int .i64 0] H = some (.bool true, H) := by
  obtain ⟨H1, hH1⟩ : ∃ H1, H.push (.cells [.int .i64 j.id, .int .i64 j.prio, .string j.body, .int .i64 j.state, .int .i64 j.tries, .int .i64 j.who, .int .i64 j.til] T.api_Job true) = H1 := ⟨_, rfl⟩
  obtain ⟨s1, n1, f1⟩ := Yu hH1
  have m := q_QGet bq bm bk A tries last now id H1 (q.ok.fr s1) (q.r.still s1) q.i
  rw [h] at m
  exact q_gets_of (H2 := H1) j hH1 m
theorem QS.getsNone (q : QS H bq bm bk A tries last now) (id : Int) (h : fnd A id = none) : CC F.law_gets [.pointer (some ⟨bq, 0, none⟩), .int .i64 id, .agg #[.int .i64 0, .int .i64 0, .string (Eng.mk []), .int .i64 0, .int .i64 0, .int .i64 0, .int .i64 0], .int .i64 9] H = some (.bool true, H) := by
  obtain ⟨H1, hH1⟩ : ∃ H1, H.push (.cells [.int .i64 0, .int .i64 0, .string (Eng.mk []), .int .i64 0, .int .i64 0, .int .i64 0, .int .i64 0] T.api_Job true) = H1 := ⟨_, rfl⟩
  obtain ⟨s1, n1, f1⟩ := Yu hH1
  have m := q_QGet bq bm bk A tries last now id H1 (q.ok.fr s1) (q.r.still s1) q.i
  rw [h] at m
  exact q_gets_of (H2 := H1) Z0 hH1 m
theorem QS.takes (q : QS H bq bm bk A tries last now) (who n : Int) (j : Jb) (t : List Jb) (h : UH A now who n = 0) (hj : QX A = j :: t) :
    ∃ H', CC F.law_takes [.pointer (some ⟨bq, 0, none⟩), .int .i64 who, .int .i64 n, .agg ⟨(WK j now who n).l⟩, .int .i64 0] H = some (.bool true, H') ∧ QS H' bq bm bk (VN A (WK j now who n)) tries last now ∧ UpQ H bq bm bk H' := by
  generalize hx : WK j now who n = x
  obtain ⟨H1, hH1⟩ : ∃ H1, H.push (.cells [.int .i64 x.id, .int .i64 x.prio, .string x.body, .int .i64 x.state, .int .i64 x.tries, .int .i64 x.who, .int .i64 x.til] T.api_Job true) = H1 := ⟨_, rfl⟩
  obtain ⟨s1, n1, f1⟩ := Yu hH1
  obtain ⟨H2, m2, r2, i2, u2⟩ := q_QTake bq bm bk A tries last now who n j t H1 (q.ok.fr s1) (q.r.still s1) q.i h hj
  rw [hx] at m2 r2 i2
  have hn : ¬ QB H1 bq bm bk H.n := fun h => by have := q.r.blk (h.still q.r.mdl s1); omega
  obtain ⟨H4, m4, s4⟩ := q_takes_of x hH1 m2 u2.fr.n (by rw [u2.fr.f (by omega) hn]; exact f1)
  obtain ⟨H5, t1, t2, t3⟩ := QR.tidy (v := .bool true) q.ok q.r (r2.still s4) ((UpQ.pre q.r s1 u2).trans (UpQ.of_still r2 s4))
  exact ⟨H5, m4.trans (congrArg some t1), ⟨q.ok.fr t3.fr, t2, i2⟩, t3⟩
theorem QS.takesBad (q : QS H bq bm bk A tries last now) (who n : Int) (h : UH A now who n ≠ 0) :
    CC F.law_takes [.pointer (some ⟨bq, 0, none⟩), .int .i64 who, .int .i64 n, .agg #[.int .i64 0, .int .i64 0, .string (Eng.mk []), .int .i64 0, .int .i64 0, .int .i64 0, .int .i64 0], .int .i64 (UH A now who n)] H = some (.bool true, H) := by
  obtain ⟨H1, hH1⟩ : ∃ H1, H.push (.cells [.int .i64 0, .int .i64 0, .string (Eng.mk []), .int .i64 0, .int .i64 0, .int .i64 0, .int .i64 0] T.api_Job true) = H1 := ⟨_, rfl⟩
  obtain ⟨s1, n1, f1⟩ := Yu hH1
  have m2 := q_QTake_bad bq bm bk A tries last now who n H1 (q.ok.fr s1) (q.r.still s1) q.i h
  obtain ⟨H4, m4, s4⟩ := q_takes_of Z0 hH1 m2 (Nat.le_refl _) f1
  exact m4.trans (congrArg some (tidy_same rfl (s1.trans s4)))
theorem QS.finish (q : QS H bq bm bk A tries last now) (who id : Int) (h : Y7 A who id = 0) :
    ∃ H', CC F.jobs_Queue_Finish [.pointer (some ⟨bq, 0, none⟩), .int .i64 who, .int .i64 id] H = some (.int .i64 0, H') ∧ QS H' bq bm bk (delJ A id) tries last now ∧ UpQ H bq bm bk H' := by
  obtain ⟨H1, m1, r1, u1⟩ := q_QFinish bq bm bk A tries last now who id H q.ok q.r q.i h
  exact ⟨H1, m1, ⟨q.ok.fr u1.fr, r1, q.i.a.del id, q.i.t, q.i.l, q.i.n, fun a ha => q.i.w a (VC.1 ha).1⟩, u1⟩
theorem QS.finishBad (q : QS H bq bm bk A tries last now) (who id : Int) (h : Y7 A who id ≠ 0) :
    CC F.jobs_Queue_Finish [.pointer (some ⟨bq, 0, none⟩), .int .i64 who, .int .i64 id] H = some (.int .i64 (Y7 A who id), H) :=
  q_QFinish_err _ who id _ h H (q_Qtaken_bad bq bm bk A tries last now who id H q.ok q.r q.i h)
theorem QS.back (q : QS H bq bm bk A tries last now) (who id : Int) (j : Jb) (h : Y7 A who id = 0) (hf : fnd A id = some j) :
    ∃ H', CC F.jobs_Queue_Back [.pointer (some ⟨bq, 0, none⟩), .int .i64 who, .int .i64 id] H = some (.int .i64 0, H') ∧ QS H' bq bm bk (VN A (XK tries j)) tries last now ∧ UpQ H bq bm bk H' := by
  obtain ⟨H1, m1, r1, i1, u1⟩ := q_QBack bq bm bk A tries last now who id j H q.ok q.r q.i h hf
  exact ⟨H1, m1, ⟨q.ok.fr u1.fr, r1, i1⟩, u1⟩
theorem QS.backBad (q : QS H bq bm bk A tries last now) (who id : Int) (h : Y7 A who id ≠ 0) :
    CC F.jobs_Queue_Back [.pointer (some ⟨bq, 0, none⟩), .int .i64 who, .int .i64 id] H = some (.int .i64 (Y7 A who id), H) :=
  q_QBack_err _ who id _ h H (q_Qtaken_bad bq bm bk A tries last now who id H q.ok q.r q.i h)
theorem QS.revive (q : QS H bq bm bk A tries last now) (id : Int) (j : Jb) (hf : fnd A id = some j) (c : j.state = 3) :
    ∃ H', CC F.jobs_Queue_Revive [.pointer (some ⟨bq, 0, none⟩), .int .i64 id] H = some (.int .i64 0, H') ∧ QS H' bq bm bk (VN A (Qv j)) tries last now ∧ UpQ H bq bm bk H' := by
  obtain ⟨H1, m1, r1, i1, u1⟩ := q_QRevive bq bm bk A tries last now id j H q.ok q.r q.i hf c
  exact ⟨H1, m1, ⟨q.ok.fr u1.fr, r1, i1⟩, u1⟩
theorem QS.pass (q : QS H bq bm bk A tries last now) (tick : Int) (h : Z4 now tick = 0) :
    ∃ H', CC F.jobs_Queue_Pass [.pointer (some ⟨bq, 0, none⟩), .int .i64 tick] H = some (.int .i64 0, H') ∧ QS H' bq bm bk (passJ A tries tick) tries last tick ∧ UpQ H bq bm bk H' := by
  obtain ⟨H1, m1, r1, i1, u1⟩ := q_QPass bq bm bk A tries last now tick H q.ok q.r q.i h
  exact ⟨H1, m1, ⟨q.ok.fr u1.fr, r1, i1⟩, u1⟩
end
theorem q_ltaken (id prio : Int) (body : ByteArray) (tr who til : Int) (H : AHeap) : CC F.law_taken [.int .i64 id, .int .i64 prio, .string body, .int .i64 tr, .int .i64 who, .int .i64 til] H = some (.agg #[.int .i64 id, .int .i64 prio, .string body, .int .i64 2, .int .i64 tr, .int .i64 who, .int .i64 til], H) := by
  obtain ⟨H1, hH1⟩ : ∃ H1, H.push (.cells [.int .i64 0, .int .i64 0, .string (Eng.mk []), .int .i64 0, .int .i64 0, .int .i64 0, .int .i64 0] T.api_Job true) = H1 := ⟨_, rfl⟩
  obtain ⟨s1, n1, f1⟩ := Yu hH1
  obtain ⟨H2, hH2⟩ : ∃ H2, H1.set H.n (.cells [.int .i64 id, .int .i64 prio, .string body, .int .i64 2, .int .i64 tr, .int .i64 who, .int .i64 til] T.api_Job true) = H2 := ⟨_, rfl⟩
  obtain ⟨s2, n2, f2, _⟩ := YH hH2
  refine Yk (H' := H2) ?_ (d_law_taken _ _ _ _ _ _ H) rfl (s1.then s2 fun b hb h => by omega)
  simp (disch := first | with_reducible rfl | assumption | omega | rfl | (simp only [go_sem]; first | done | omega)) only [go_sem, ↓reduceIte, reduceCtorEq, Nat.reduceAdd, Nat.reduceMul, Nat.reduceLT, Int.reduceEq, Int.reduceLT, Int.reduceLE, Int.reduceAdd, Int.reduceToNat, ↓QC, hH1, f1, hH2, f2, XE]
end Go.Proofs.YtmiinbhnfojnbaaGreatDoor

set_option maxRecDepth 10000
namespace Go.Proofs.YtmiinbhnfojnbaaGreatDoor
open Go Eng
attribute [local congr] YO YM YI
def kn0 : List Jb := []
def kn1 : List Jb := [⟨1, 3, Eng.mk [97], 1, 0, 0, 0⟩]
def kn2 : List Jb := [⟨1, 3, Eng.mk [97], 1, 0, 0, 0⟩, ⟨2, 7, Eng.mk [98], 1, 0, 0, 0⟩]
def kn3 : List Jb := [⟨1, 3, Eng.mk [97], 1, 0, 0, 0⟩, ⟨2, 7, Eng.mk [98], 1, 0, 0, 0⟩, ⟨3, 3, Eng.mk [99], 1, 0, 0, 0⟩]
def kn4 : List Jb := [⟨1, 3, Eng.mk [97], 1, 0, 0, 0⟩, ⟨2, 7, Eng.mk [98], 2, 1, 5, 10⟩, ⟨3, 3, Eng.mk [99], 1, 0, 0, 0⟩]
def kn5 : List Jb := [⟨1, 3, Eng.mk [97], 2, 1, 6, 4⟩, ⟨2, 7, Eng.mk [98], 2, 1, 5, 10⟩, ⟨3, 3, Eng.mk [99], 1, 0, 0, 0⟩]
def kn6 : List Jb := [⟨1, 3, Eng.mk [97], 2, 1, 6, 4⟩, ⟨3, 3, Eng.mk [99], 1, 0, 0, 0⟩]
def kn7 : List Jb := [⟨1, 3, Eng.mk [97], 1, 1, 0, 0⟩, ⟨3, 3, Eng.mk [99], 1, 0, 0, 0⟩]
def kn8 : List Jb := [⟨1, 3, Eng.mk [97], 2, 2, 6, 4⟩, ⟨3, 3, Eng.mk [99], 1, 0, 0, 0⟩]
def kn9 : List Jb := [⟨1, 3, Eng.mk [97], 3, 2, 0, 0⟩, ⟨3, 3, Eng.mk [99], 1, 0, 0, 0⟩]
def kn10 : List Jb := [⟨1, 3, Eng.mk [97], 3, 2, 0, 0⟩, ⟨3, 3, Eng.mk [99], 2, 1, 9, 5⟩]
def kn11 : List Jb := [⟨1, 3, Eng.mk [97], 1, 0, 0, 0⟩, ⟨3, 3, Eng.mk [99], 2, 1, 9, 5⟩]
set_option maxHeartbeats 4000000 in
theorem k_known (H : AHeap) (ok : Ok H) : CC F.law_known [] H = some (.bool true, H) := by
  obtain ⟨bq, bm, bk, H0, m0, r0, i0, s0, new0⟩ := q_QNew 2 H (by decide)
  have q0 : QS H0 bq bm bk kn0 2 0 0 := ⟨ok.fr s0, r0, i0⟩
  obtain ⟨H1, m1, q1, u1⟩ : ∃ H', CC F.law_puts [.pointer (some ⟨bq, 0, none⟩), .int .i64 3, .string (Eng.mk [97]), .int .i64 1, .int .i64 0] H0 = some (.bool true, H') ∧ QS H' bq bm bk kn1 2 1 0 ∧ UpQ H0 bq bm bk H' := q0.puts (by decide) 3 (Eng.mk [97]) (by kernel_rfl)
  obtain ⟨H2, m2, q2, u2⟩ : ∃ H', CC F.law_puts [.pointer (some ⟨bq, 0, none⟩), .int .i64 7, .string (Eng.mk [98]), .int .i64 2, .int .i64 0] H1 = some (.bool true, H') ∧ QS H' bq bm bk kn2 2 2 0 ∧ UpQ H1 bq bm bk H' := q1.puts (by decide) 7 (Eng.mk [98]) (by kernel_rfl)
  obtain ⟨H3, m3, q3, u3⟩ : ∃ H', CC F.law_puts [.pointer (some ⟨bq, 0, none⟩), .int .i64 3, .string (Eng.mk [99]), .int .i64 3, .int .i64 0] H2 = some (.bool true, H') ∧ QS H' bq bm bk kn3 2 3 0 ∧ UpQ H2 bq bm bk H' := q2.puts (by decide) 3 (Eng.mk [99]) (by kernel_rfl)
  obtain ⟨H4, m4, q4, u4⟩ : ∃ H', CC F.law_takes [.pointer (some ⟨bq, 0, none⟩), .int .i64 5, .int .i64 10, .agg #[.int .i64 2, .int .i64 7, .string (Eng.mk [98]), .int .i64 2, .int .i64 1, .int .i64 5, .int .i64 10], .int .i64 0] H3 = some (.bool true, H') ∧ QS H' bq bm bk kn4 2 3 0 ∧ UpQ H3 bq bm bk H' := q3.takes 5 10 ⟨2, 7, Eng.mk [98], 1, 0, 0, 0⟩ [⟨1, 3, Eng.mk [97], 1, 0, 0, 0⟩, ⟨3, 3, Eng.mk [99], 1, 0, 0, 0⟩] (by kernel_rfl) (by kernel_rfl)
  obtain ⟨H5, m5, q5, u5⟩ : ∃ H', CC F.law_takes [.pointer (some ⟨bq, 0, none⟩), .int .i64 6, .int .i64 4, .agg #[.int .i64 1, .int .i64 3, .string (Eng.mk [97]), .int .i64 2, .int .i64 1, .int .i64 6, .int .i64 4], .int .i64 0] H4 = some (.bool true, H') ∧ QS H' bq bm bk kn5 2 3 0 ∧ UpQ H4 bq bm bk H' := q4.takes 6 4 ⟨1, 3, Eng.mk [97], 1, 0, 0, 0⟩ [⟨3, 3, Eng.mk [99], 1, 0, 0, 0⟩] (by kernel_rfl) (by kernel_rfl)
  obtain ⟨H6, m6, q6, u6⟩ : ∃ H', CC F.jobs_Queue_Finish [.pointer (some ⟨bq, 0, none⟩), .int .i64 5, .int .i64 2] H5 = some (.int .i64 0, H') ∧ QS H' bq bm bk kn6 2 3 0 ∧ UpQ H5 bq bm bk H' := q5.finish 5 2 (by kernel_rfl)
  have x6 : CC F.jobs_Queue_Finish [.pointer (some ⟨bq, 0, none⟩), .int .i64 5, .int .i64 1] H6 = some (.int .i64 8, H6) := q6.finishBad 5 1 (by decide)
  obtain ⟨H7, m7, q7, u7⟩ : ∃ H', CC F.jobs_Queue_Back [.pointer (some ⟨bq, 0, none⟩), .int .i64 6, .int .i64 1] H6 = some (.int .i64 0, H') ∧ QS H' bq bm bk kn7 2 3 0 ∧ UpQ H6 bq bm bk H' := q6.back 6 1 ⟨1, 3, Eng.mk [97], 2, 1, 6, 4⟩ (by kernel_rfl) (by kernel_rfl)
  obtain ⟨H8, m8, q8, u8⟩ : ∃ H', CC F.law_takes [.pointer (some ⟨bq, 0, none⟩), .int .i64 6, .int .i64 4, .agg #[.int .i64 1, .int .i64 3, .string (Eng.mk [97]), .int .i64 2, .int .i64 2, .int .i64 6, .int .i64 4], .int .i64 0] H7 = some (.bool true, H') ∧ QS H' bq bm bk kn8 2 3 0 ∧ UpQ H7 bq bm bk H' := q7.takes 6 4 ⟨1, 3, Eng.mk [97], 1, 1, 0, 0⟩ [⟨3, 3, Eng.mk [99], 1, 0, 0, 0⟩] (by kernel_rfl) (by kernel_rfl)
  obtain ⟨H9, m9, q9, u9⟩ : ∃ H', CC F.jobs_Queue_Pass [.pointer (some ⟨bq, 0, none⟩), .int .i64 4] H8 = some (.int .i64 0, H') ∧ QS H' bq bm bk kn9 2 3 4 ∧ UpQ H8 bq bm bk H' := q8.pass 4 (by kernel_rfl)
  have x9 : CC F.law_gets [.pointer (some ⟨bq, 0, none⟩), .int .i64 1, .agg #[.int .i64 1, .int .i64 3, .string (Eng.mk [97]), .int .i64 3, .int .i64 2, .int .i64 0, .int .i64 0], .int .i64 0] H9 = some (.bool true, H9) := q9.gets 1 ⟨1, 3, Eng.mk [97], 3, 2, 0, 0⟩ (by kernel_rfl)
  obtain ⟨H10, m10, q10, u10⟩ : ∃ H', CC F.law_takes [.pointer (some ⟨bq, 0, none⟩), .int .i64 9, .int .i64 1, .agg #[.int .i64 3, .int .i64 3, .string (Eng.mk [99]), .int .i64 2, .int .i64 1, .int .i64 9, .int .i64 5], .int .i64 0] H9 = some (.bool true, H') ∧ QS H' bq bm bk kn10 2 3 4 ∧ UpQ H9 bq bm bk H' := q9.takes 9 1 ⟨3, 3, Eng.mk [99], 1, 0, 0, 0⟩ [] (by kernel_rfl) (by kernel_rfl)
  have x10 : CC F.law_takes [.pointer (some ⟨bq, 0, none⟩), .int .i64 9, .int .i64 1, .agg #[.int .i64 0, .int .i64 0, .string (Eng.mk []), .int .i64 0, .int .i64 0, .int .i64 0, .int .i64 0], .int .i64 9] H10 = some (.bool true, H10) := q10.takesBad 9 1 (by decide)
  obtain ⟨H11, m11, q11, u11⟩ : ∃ H', CC F.jobs_Queue_Revive [.pointer (some ⟨bq, 0, none⟩), .int .i64 1] H10 = some (.int .i64 0, H') ∧ QS H' bq bm bk kn11 2 3 4 ∧ UpQ H10 bq bm bk H' := q10.revive 1 ⟨1, 3, Eng.mk [97], 3, 2, 0, 0⟩ (by kernel_rfl) rfl
  have x11 : CC F.law_gets [.pointer (some ⟨bq, 0, none⟩), .int .i64 1, .agg #[.int .i64 1, .int .i64 3, .string (Eng.mk [97]), .int .i64 1, .int .i64 0, .int .i64 0, .int .i64 0], .int .i64 0] H11 = some (.bool true, H11) := q11.gets 1 ⟨1, 3, Eng.mk [97], 1, 0, 0, 0⟩ (by kernel_rfl)
  have y11 : CC F.jobs_Queue_Pass [.pointer (some ⟨bq, 0, none⟩), .int .i64 3] H11 = some (.int .i64 14, H11) := q_QPass_bad bq bm bk kn11 2 3 4 3 H11 q11.r (by decide)
  have z11 : CC F.law_puts [.pointer (some ⟨bq, 0, none⟩), .int .i64 10, .string (Eng.mk [120]), .int .i64 0, .int .i64 2] H11 = some (.bool true, H11) := q11.putsBad 10 (Eng.mk [120]) (by decide)
  obtain ⟨v, H12, m12, so⟩ := q_QJobs bq bm bk kn11 2 3 4 H11 q11.ok q11.r q11.i
  have hs : WC kn11 = kn11 := by kernel_rfl
  rw [hs] at so
  have hl : lenS v = some (.int .i64 2) := so.own.rd.lenS
  obtain ⟨b0, o0, ix0, _, c0, _⟩ := Vj so.own.rd (i := 0) (by decide)
  obtain ⟨b1, o1, ix1, _, c1, _⟩ := Vj so.own.rd (i := 1) (by decide)
  have ix0 : ixS 7 v (.int .i64 0) = some (.pointer (some ⟨b0, o0, none⟩)) := ix0
  have ix1 : ixS 7 v (.int .i64 1) = some (.pointer (some ⟨b1, o1, none⟩)) := ix1
  have e0 : Xw (H12.f b0) o0 = some (.int .i64 1) := Y6 c0 (i := 0) (by decide)
  have e1 : Xw (H12.f b1) o1 = some (.int .i64 3) := Y6 c1 (i := 0) (by decide)
  have t1 := fun H => q_ltaken 2 7 (Eng.mk [98]) 1 5 10 H
  have t2 := fun H => q_ltaken 1 3 (Eng.mk [97]) 1 6 4 H
  have t3 := fun H => q_ltaken 1 3 (Eng.mk [97]) 2 6 4 H
  have t4 := fun H => q_ltaken 3 3 (Eng.mk [99]) 1 9 5 H
  have U : UpQ H0 bq bm bk H11 := ((((((((((u1.trans u2).trans u3).trans u4).trans u5).trans u6).trans u7).trans u8).trans u9).trans u10).trans u11)
  have st : Yr H H12 := ((s0.then U.fr fun b hb h => by have := new0 b h; omega).trans so.still)
  refine Yk (H' := H12) ?_ (d_law_known H) rfl st
  simp (disch := first | with_reducible rfl | assumption | omega | rfl | (simp only [go_sem]; first | done | omega)) only [go_sem, ↓reduceIte, reduceCtorEq, Nat.reduceAdd, Nat.reduceMul, Nat.reduceLT, Int.reduceEq, Int.reduceLT, Int.reduceLE, Int.reduceAdd, Int.reduceToNat, ↓QA, ↓Ya m0, Ya m0, ↓Ya m1, Ya m1, ↓Ya m2, Ya m2, ↓Ya m3, Ya m3, Ya (t1 _), ↓Ya m4, Ya m4, Ya (t2 _), ↓Ya m5, Ya m5, ↓Ya m6, Ya m6, ↓Ya x6, Ya x6, ↓Ya m7, Ya m7, Ya (t3 _), ↓Ya m8, Ya m8, ↓Ya m9, Ya m9, ↓Ya x9, Ya x9, Ya (t4 _), ↓Ya m10, Ya m10, ↓Ya x10, Ya x10, ↓Ya m11, Ya m11, ↓Ya x11, Ya x11, ↓Ya y11, Ya y11, ↓Ya z11, Ya z11, ↓Ya m12, Ya m12, hl, ix0, ix1, e0, e1]
end Go.Proofs.YtmiinbhnfojnbaaGreatDoor

set_option maxRecDepth 10000
namespace Go.Proofs.YtmiinbhnfojnbaaGreatDoor
open Go Eng
attribute [local congr] YO YM YI
structure Act where
  what : Int
  who : Int
  n : Int
  body : ByteArray
def EAct : Enc Act := ⟨4, fun a => [.int .i64 a.what, .int .i64 a.who, .int .i64 a.n, .string a.body], fun _ => rfl, by decide, fun _ => rfl⟩
theorem rd_act {H : AHeap} {v : Value} {l : List Act} (r : Rd EAct H v l) {i : Nat} (hi : i < l.length) : ∃ b o, ixS 4 v (.int .i64 (i : Int)) = some (.pointer (some ⟨b, o, none⟩)) ∧ b < H.n ∧ VA (H.f b) o 4 = some [.int .i64 l[i].what, .int .i64 l[i].who, .int .i64 l[i].n, .string l[i].body] := by
  obtain ⟨b, o, h1, h2, h3, _⟩ := r.ix (q := .i64) hi
  exact ⟨b, o, h1, h2, h3⟩
theorem decAct {W : World} {H : Type} {enc : TypeId × Value → H} {p : Prop} (_ : p) {cs : List Value} {n : Nat} {y : DataW H × List MemPlace} (h : DataW.trod enc Tryz.prog W 0 (fun _ => true) true n T.law_Act cs = some y) (hl : cs.length = EAct.w) :
    ∃ a : Act, cs.map (UZ W.heap.size) = EAct.enc a ∧ (-9223372036854775808 ≤ a.n ∧ a.n ≤ 9223372036854775807) := by
  have ht := Tryz.underlying37
  obtain ⟨c0, c1, c2, c3, rfl⟩ : ∃ c0 c1 c2 c3, cs = [c0, c1, c2, c3] := by
    match cs, hl with
    | [c0, c1, c2, c3], _ => exact ⟨_, _, _, _, rfl⟩
  obtain ⟨m0, z0, h0⟩ := dec_field ht h (i := 0) rfl rfl (by kernel_rfl) rfl
  obtain ⟨m1, z1, h1⟩ := dec_field ht h (i := 1) rfl rfl (by kernel_rfl) rfl
  obtain ⟨m2, z2, h2⟩ := dec_field ht h (i := 2) rfl rfl (by kernel_rfl) rfl
  obtain ⟨m3, z3, h3⟩ := dec_field ht h (i := 3) rfl rfl (by kernel_rfl) rfl
  obtain ⟨s0, rfl, _⟩ := dec_int Tryz.underlying3 h0
  obtain ⟨s1, rfl, _⟩ := dec_int Tryz.underlying3 h1
  obtain ⟨s2, rfl, w2⟩ := dec_int Tryz.underlying3 h2
  obtain ⟨s3, rfl, _⟩ := dec_str Tryz.underlying9 h3
  refine ⟨⟨s0, s1, s2, s3⟩, rfl, ?_⟩
  simp [Lit.wf, IntKind.min, IntKind.max, IntKind.signed, IntKind.bits] at w2
  omega
def shortA (a : Act) : Bool := decide ((bl a.body).length ≤ 20)
def smallA (l : List Act) (most : Nat) : Bool := (l.take most).all shortA && decide (l.length ≤ most)
theorem l_small (l : List Act) (most : Nat) (hm : most ≤ 1000) (v : Value) (H : AHeap) (hr : Rd EAct H v l) : ∀ (t : List Act) (i : Nat), (l.take most).drop i = t → i ≤ most →
    (t.all shortA = false → ∀ K : K, X8 v (.int .i64 (most : Int)) (.int .i64 (i : Int)) H (YB [0, 1] 0 K) = K .ret [(4, .bool false)] H) ∧
    (t.all shortA = true → ∀ K : K, X8 v (.int .i64 (most : Int)) (.int .i64 (i : Int)) H (YB [0, 1] 0 K) = K .normal [(0, v), (1, .int .i64 (most : Int))] H)
  | [], i, hx, hi => by
    have h : (l.take most).length ≤ i := List.drop_eq_nil_iff.1 hx
    rw [List.length_take] at h
    have hlen := hr.lenS
    refine ⟨fun h => by simp at h, fun _ K => ?_⟩
    by_cases h1 : i < l.length
    · have h2 : i = most := by omega
      have hlt : (i : Int) < (l.length : Int) := by omega
      have hlt2 : ¬ (i : Int) < (most : Int) := by omega
      rw [Uw]
      simp (disch := first | with_reducible rfl | assumption | omega | rfl | (simp only [go_sem]; first | done | omega)) only [go_sem, ↓reduceIte, reduceCtorEq, Nat.reduceEqDiff, Nat.reduceAdd, Nat.reduceSub, Nat.reduceMul, Nat.reduceLeDiff, Nat.reduceLT, Int.reduceEq, Int.reduceLT, Int.reduceLE, Int.reduceAdd, Int.reduceSub, Int.reduceNeg, Int.reduceToNat, Int.reduceMul, ↓WG, hlen, hlt, hlt2]
    · have hlt : ¬ (i : Int) < (l.length : Int) := by omega
      rw [Uw]
      simp (disch := first | with_reducible rfl | assumption | omega | rfl | (simp only [go_sem]; first | done | omega)) only [go_sem, ↓reduceIte, reduceCtorEq, Nat.reduceEqDiff, Nat.reduceAdd, Nat.reduceSub, Nat.reduceMul, Nat.reduceLeDiff, Nat.reduceLT, Int.reduceEq, Int.reduceLT, Int.reduceLE, Int.reduceAdd, Int.reduceSub, Int.reduceNeg, Int.reduceToNat, Int.reduceMul, ↓WG, hlen, hlt]
  | a :: t, i, hx, hi => by
    obtain ⟨h, hxa, hx'⟩ := Xt hx
    rw [List.length_take] at h
    have hlen := hr.lenS
    have hlt : (i : Int) < (l.length : Int) := by omega
    have hlt2 : (i : Int) < (most : Int) := by omega
    obtain ⟨b, o, ix, lb, cb⟩ := rd_act hr (i := i) (by omega)
    have hel : l[i]'(by omega) = a := by rw [← hxa, List.getElem_take]
    rw [hel] at cb
    have c3 : Xw (H.f b) (o + 3) = some (.string a.body) := Y6 cb (i := 3) (by decide)
    have e1 : ((i : Int) + 1) = ((i + 1 : Nat) : Int) := by omega
    obtain ⟨k1, k2⟩ := l_small l most hm v H hr t (i + 1) hx' (by omega)
    by_cases hs : (bl a.body).length ≤ 20
    · have hs1 : shortA a = true := decide_eq_true hs
      have hs2 : ¬ (20 : Int) < ((bl a.body).length : Int) := by omega
      refine ⟨fun h K => ?_, fun h K => ?_⟩
      · rw [List.all_cons, hs1, Bool.true_and] at h
        have := k1 h K
        rw [← e1] at this
        rw [Uw]
        simp (disch := first | with_reducible rfl | assumption | omega | rfl | (simp only [go_sem]; first | done | omega)) only [go_sem, ↓reduceIte, reduceCtorEq, Nat.reduceEqDiff, Nat.reduceAdd, Nat.reduceSub, Nat.reduceMul, Nat.reduceLeDiff, Nat.reduceLT, Int.reduceEq, Int.reduceLT, Int.reduceLE, Int.reduceAdd, Int.reduceSub, Int.reduceNeg, Int.reduceToNat, Int.reduceMul, ↓WG, hlen, hlt, hlt2, ix, c3, hs2]
        exact this
      · rw [List.all_cons, hs1, Bool.true_and] at h
        have := k2 h K
        rw [← e1] at this
        rw [Uw]
        simp (disch := first | with_reducible rfl | assumption | omega | rfl | (simp only [go_sem]; first | done | omega)) only [go_sem, ↓reduceIte, reduceCtorEq, Nat.reduceEqDiff, Nat.reduceAdd, Nat.reduceSub, Nat.reduceMul, Nat.reduceLeDiff, Nat.reduceLT, Int.reduceEq, Int.reduceLT, Int.reduceLE, Int.reduceAdd, Int.reduceSub, Int.reduceNeg, Int.reduceToNat, Int.reduceMul, ↓WG, hlen, hlt, hlt2, ix, c3, hs2]
        exact this
    · have hs1 : shortA a = false := decide_eq_false hs
      have hs2 : (20 : Int) < ((bl a.body).length : Int) := by omega
      refine ⟨fun h K => ?_, fun h => by rw [List.all_cons, hs1] at h; cases h⟩
      rw [Uw]
      simp (disch := first | with_reducible rfl | assumption | omega | rfl | (simp only [go_sem]; first | done | omega)) only [go_sem, ↓reduceIte, reduceCtorEq, Nat.reduceEqDiff, Nat.reduceAdd, Nat.reduceSub, Nat.reduceMul, Nat.reduceLeDiff, Nat.reduceLT, Int.reduceEq, Int.reduceLT, Int.reduceLE, Int.reduceAdd, Int.reduceSub, Int.reduceNeg, Int.reduceToNat, Int.reduceMul, ↓WG, hlen, hlt, hlt2, ix, c3, hs2]
theorem q_small (l : List Act) (most : Nat) (hm : most ≤ 1000) (v : Value) (H : AHeap) (hr : Rd EAct H v l) : CC F.law_small [v, .int .i64 (most : Int)] H = some (.bool (smallA l most), H) := by
  obtain ⟨k1, k2⟩ := l_small l most hm v H hr (l.take most) 0 rfl (by omega)
  have hlen := hr.lenS
  unfold smallA
  cases ha : (l.take most).all shortA with
  | false =>
    have k1 : ∀ K : K, X8 v (.int .i64 (most : Int)) (.int .i64 0) H (YB [0, 1] 0 K) = K .ret [(4, .bool false)] H := k1 ha
    rw [Bool.false_and]
    apply Yk _ (d_law_small _ _ H) rfl
    rotate_left 2
    · simp (disch := first | with_reducible rfl | assumption | omega | rfl | (simp only [go_sem]; first | done | omega)) only [go_sem, ↓reduceIte, reduceCtorEq, Nat.reduceEqDiff, Nat.reduceAdd, Nat.reduceSub, Nat.reduceMul, Nat.reduceLeDiff, Nat.reduceLT, Int.reduceEq, Int.reduceLT, Int.reduceLE, Int.reduceAdd, Int.reduceSub, Int.reduceNeg, Int.reduceToNat, Int.reduceMul, ↓UM, k1]
      rfl
    · (repeat (first | exact Fr.refl _ | refine Fr.push ?_ _ | refine Fr.set ?_ _ _ (by intro h; first | omega | (simp only [go_sem] at h; omega))))
  | true =>
    have k2 : ∀ K : K, X8 v (.int .i64 (most : Int)) (.int .i64 0) H (YB [0, 1] 0 K) = K .normal [(0, v), (1, .int .i64 (most : Int))] H := k2 ha
    rw [Bool.true_and]
    have e : decide (l.length ≤ most) = decide ((l.length : Int) ≤ (most : Int)) := decide_eq_decide.2 (by omega)
    rw [e]
    apply Yk _ (d_law_small _ _ H) rfl
    rotate_left 2
    · simp (disch := first | with_reducible rfl | assumption | omega | rfl | (simp only [go_sem]; first | done | omega)) only [go_sem, ↓reduceIte, reduceCtorEq, Nat.reduceEqDiff, Nat.reduceAdd, Nat.reduceSub, Nat.reduceMul, Nat.reduceLeDiff, Nat.reduceLT, Int.reduceEq, Int.reduceLT, Int.reduceLE, Int.reduceAdd, Int.reduceSub, Int.reduceNeg, Int.reduceToNat, Int.reduceMul, ↓UM, k2, hlen]
      rfl
    · (repeat (first | exact Fr.refl _ | refine Fr.push ?_ _ | refine Fr.set ?_ _ _ (by intro h; first | omega | (simp only [go_sem] at h; omega))))
end Go.Proofs.YtmiinbhnfojnbaaGreatDoor

set_option maxRecDepth 10000
namespace Go.Proofs.YtmiinbhnfojnbaaGreatDoor
open Go Eng
attribute [local congr] YO YM YI
theorem job_cell (l : List Jb) (k m : Nat) (hm : m < 7) : (EJb.cells l)[k * 7 + m]? = (l[k]?).bind fun a => (EJb.enc a)[m]? := by
  have hw : EJb.w = 7 := rfl
  by_cases hk : k < l.length
  · have := EJb.cells_elem l k hk
    rw [hw] at this
    rw [List.getElem?_eq_getElem hk, Option.bind_some, ← this, List.getElem?_take_of_lt hm, List.getElem?_drop]
  · rw [List.getElem?_eq_none (by rw [EJb.cells_len, hw]; omega), List.getElem?_eq_none (by omega)]
    rfl
theorem Own.cellw {H : AHeap} {v : Value} {l : List Jb} (r : Own EJb H T.api_Job v l) {i : Nat} (hi : i < l.length) {k : Nat} (hk : k < 7) (a : Jb) (x : Value) (hx1 : Eng.one x = true) (henc : EJb.enc a = (EJb.enc l[i]).set k x) :
    ∃ b o H', ixS 7 v (.int .i64 (i : Int)) = some (.pointer (some ⟨b, o, none⟩)) ∧ Ye v = some b ∧ b < H.n ∧ VA (H.f b) o 7 = some l[i].l ∧ setB H b (wr1 (H.f b) (o + k) x) = some H' ∧ Own EJb H' T.api_Job v (l.set i a) ∧ H'.n = H.n ∧ Fr (fun c => c = b) H H' ∧ H'.ver b = H.clk := by
  obtain ⟨b2, o2, g1, g2, g3, _⟩ := r.rd.ix (q := .i64) hi
  rcases r with ⟨h, _⟩ | ⟨h, _⟩ | ⟨b, o, c, xs, rfl, hlc, hb, hf, ho, hx⟩
  · subst h; simp at hi
  · subst h; simp at hi
  · have hw : EJb.w = 7 := rfl
    rw [hw] at ho hx
    have hmul : l.length * 7 ≤ c * 7 := Nat.mul_le_mul_right _ hlc
    have hix : ixS 7 (.slice (some ⟨b, o, none⟩) l.length (2 * c + 1)) (.int .i64 (i : Int)) = some (.pointer (some ⟨b, o + i * 7, none⟩)) := ixS_nat hi
    have g1 : ixS 7 (.slice (some ⟨b, o, none⟩) l.length (2 * c + 1)) (.int .i64 (i : Int)) = some (.pointer (some ⟨b2, o2, none⟩)) := g1
    rw [hix] at g1
    simp only [Option.some.injEq, Value.pointer.injEq, Addr.mk.injEq] at g1
    obtain ⟨q1, q2, _⟩ := g1
    subst q1 q2
    refine ⟨b, o + i * 7, H.set b (.cells (xs.set (o + i * 7 + k) x) T.api_Job true), hix, rfl, hb, g3, ?_, ?_, rfl, Fr.set (Fr.refl H) _ _ fun _ => rfl, ZT⟩
    · rw [hf, wr1_c (by omega) hx1, setB_s]
    · refine .inr (.inr ⟨b, o, c, _, by simp, by simpa using hlc, by simpa using hb, YC, by rw [List.length_set, hw, ho], ?_⟩)
      rw [List.length_set, hw]
      apply List.ext_getElem?
      intro j
      by_cases hj : j < l.length * 7
      · rw [List.getElem?_take_of_lt hj, List.getElem?_drop]
        have hdm : j = (j / 7) * 7 + j % 7 := by omega
        have hold : xs[o + j]? = (l[j / 7]?).bind fun a => (EJb.enc a)[j % 7]? := by
          rw [← job_cell _ _ _ (by omega), ← hdm, ← hx, List.getElem?_take_of_lt hj, List.getElem?_drop]
        rw [hdm, job_cell _ _ _ (by omega)]
        by_cases h1 : j / 7 = i
        · rw [h1, List.getElem?_set_self (by omega), Option.bind_some, henc]
          have hl : (EJb.enc l[i]).length = 7 := EJb.len _
          by_cases h2 : j % 7 = k
          · rw [h2, List.getElem?_set_self (by omega), show o + (i * 7 + k) = o + i * 7 + k by omega, List.getElem?_set_self (by omega)]
          · rw [List.getElem?_set_ne (by omega), List.getElem?_set_ne (by omega), show o + (i * 7 + j % 7) = o + j by omega, hold, h1, List.getElem?_eq_getElem hi, Option.bind_some]
        · rw [List.getElem?_set_ne (by omega), List.getElem?_set_ne (by omega), ← hdm, hold]
      · rw [List.getElem?_eq_none (by simp only [List.length_take]; omega), List.getElem?_eq_none (by rw [EJb.cells_len, List.length_set, hw]; omega)]
structure MS (H : AHeap) (b : Nat) (A : List Jb) (tries last now : Int) (v : Value) : Prop where
  f : H.f b = .cells [v, .int .i64 tries, .int .i64 last, .int .i64 now] T.law_Model true
  lt : b < H.n
  own : Own EJb H T.api_Job v A
  nb : Ye v ≠ some b
def LB (b : Nat) (v : Value) : Nat → Prop := fun c => c = b ∨ Ye v = some c
section
variable {H H' : AHeap} {b : Nat} {A : List Jb} {tries last now : Int} {v : Value}
theorem MS.blk (m : MS H b A tries last now v) {c : Nat} (h : LB b v c) : c < H.n := by
  rcases h with rfl | h
  · exact m.lt
  · exact m.own.blk h
theorem MS.keep {S : Nat → Prop} (m : MS H b A tries last now v) (h : Fr S H H') (hS : ∀ c, LB b v c → ¬ S c) : MS H' b A tries last now v :=
  ⟨by rw [h.f m.lt (hS _ (.inl rfl))]; exact m.f, Nat.lt_of_lt_of_le m.lt h.n, m.own.keep h fun c hc => hS c (.inr hc), m.nb⟩
theorem MS.still (m : MS H b A tries last now v) (h : Yr H H') : MS H' b A tries last now v := m.keep h fun _ _ h => h
end
def idx : List Jb → Int → Nat → Int
  | [], _, _ => -1
  | a :: l, id, i => if a.id = id then (i : Int) else idx l id (i + 1)
theorem idx_none : ∀ {l : List Jb} {id : Int} {i : Nat}, fnd l id = none → idx l id i = -1
  | [], _, _, _ => rfl
  | a :: l, id, i, h => by
    have h0 := ZU h a (by simp)
    unfold idx
    rw [if_neg h0]
    refine idx_none ?_
    unfold fnd at h ⊢
    rw [List.find?_cons, decide_eq_false h0] at h
    exact h
theorem Z7 : ∀ {l : List Jb} {id : Int} {i : Nat} {j : Jb}, fnd l id = some j → ∃ k, k < l.length ∧ idx l id i = ((i + k : Nat) : Int) ∧ l[k]? = some j ∧ ∀ m x, m < k → l[m]? = some x → x.id ≠ id
  | [], _, _, _, h => by cases h
  | a :: l, id, i, j, h => by
    unfold fnd at h
    rw [List.find?_cons] at h
    by_cases h0 : a.id = id
    · rw [decide_eq_true h0] at h
      cases h
      exact ⟨0, by simp, by unfold idx; rw [if_pos h0]; rfl, rfl, fun m x hm => by omega⟩
    · rw [decide_eq_false h0] at h
      obtain ⟨k, h1, h2, h3, h4⟩ := Z7 (i := i + 1) (show fnd l id = some j from h)
      refine ⟨k + 1, by simp; omega, by unfold idx; rw [if_neg h0, h2]; congr 1; omega, by simpa using h3, fun m x hm hx => ?_⟩
      match m, hx with
      | 0, hx => simp at hx; rw [← hx]; exact h0
      | m + 1, hx => exact h4 m x (by omega) (by simpa using hx)
theorem l_find {tries last now : Int} (b : Nat) (A : List Jb) (hl : A.length ≤ 1000) (v : Value) (id : Int) (H : AHeap) (m : MS H b A tries last now v) (K : K) : ∀ (t : List Jb) (i : Nat), A.drop i = t → i ≤ A.length →
    X6 (.pointer (some ⟨b, 0, none⟩)) (.int .i64 id) (.int .i64 (i : Int)) H (YB [] 0 (Ys (fun _ h1 => K .ret [(4, .int .i64 (-1))] h1) K)) = K .ret [(4, .int .i64 (idx t id i))] H
  | [], i, hx, hi => by
    have h : A.length ≤ i := List.drop_eq_nil_iff.1 hx
    have hlt : ¬ (i : Int) < (A.length : Int) := by omega
    have hlen := m.own.rd.lenS
    have f := m.f
    rw [Zm]
    simp (disch := first | with_reducible rfl | assumption | omega | rfl | (simp only [go_sem]; first | done | omega)) only [go_sem, ↓reduceIte, reduceCtorEq, Nat.reduceEqDiff, Nat.reduceAdd, Nat.reduceSub, Nat.reduceMul, Nat.reduceLeDiff, Nat.reduceLT, Int.reduceEq, Int.reduceLT, Int.reduceLE, Int.reduceAdd, Int.reduceSub, Int.reduceNeg, Int.reduceToNat, Int.reduceMul, ↓Wt, f, hlen, hlt, idx]
  | a :: t, i, hx, hi => by
    obtain ⟨h, hxa, hx'⟩ := Xt hx
    have hlt : (i : Int) < (A.length : Int) := by omega
    have hlen := m.own.rd.lenS
    have f := m.f
    obtain ⟨b1, o1, ix, _, cb, _⟩ := Vj m.own.rd h
    rw [hxa] at cb
    have c0 : Xw (H.f b1) o1 = some (.int .i64 a.id) := Y6 cb (i := 0) (by decide)
    have ih := l_find b A hl v id H m K t (i + 1) hx' (by omega)
    rw [Int.natCast_add] at ih
    rw [Zm]
    by_cases he : a.id = id
    · rw [idx, if_pos he]
      simp (disch := first | with_reducible rfl | assumption | omega | rfl | (simp only [go_sem]; first | done | omega)) only [go_sem, ↓reduceIte, reduceCtorEq, Nat.reduceEqDiff, Nat.reduceAdd, Nat.reduceSub, Nat.reduceMul, Nat.reduceLeDiff, Nat.reduceLT, Int.reduceEq, Int.reduceLT, Int.reduceLE, Int.reduceAdd, Int.reduceSub, Int.reduceNeg, Int.reduceToNat, Int.reduceMul, ↓Wt, f, hlen, hlt, ix, c0, he]
    · rw [idx, if_neg he]
      simp (disch := first | with_reducible rfl | assumption | omega | rfl | (simp only [go_sem]; first | done | omega)) only [go_sem, ↓reduceIte, reduceCtorEq, Nat.reduceEqDiff, Nat.reduceAdd, Nat.reduceSub, Nat.reduceMul, Nat.reduceLeDiff, Nat.reduceLT, Int.reduceEq, Int.reduceLT, Int.reduceLE, Int.reduceAdd, Int.reduceSub, Int.reduceNeg, Int.reduceToNat, Int.reduceMul, ↓Wt, f, hlen, hlt, ix, c0, he]
      exact ih
theorem q_find {tries last now : Int} (b : Nat) (A : List Jb) (hl : A.length ≤ 1000) (v : Value) (id : Int) (H : AHeap) (m : MS H b A tries last now v) : CC F.law_Model_find [.pointer (some ⟨b, 0, none⟩), .int .i64 id] H = some (.int .i64 (idx A id 0), H) := by
  have h := l_find b A hl v id H m (Yj Tryz.prog [.tmp 4]) A 0 rfl (by omega)
  apply Yk _ (d_law_Model_find _ _ H) rfl
  rotate_left 2
  · simp (disch := first | with_reducible rfl | assumption | omega | rfl | (simp only [go_sem]; first | done | omega)) only [go_sem, ↓reduceIte, reduceCtorEq, Nat.reduceEqDiff, Nat.reduceAdd, Nat.reduceSub, Nat.reduceMul, Nat.reduceLeDiff, Nat.reduceLT, Int.reduceEq, Int.reduceLT, Int.reduceLE, Int.reduceAdd, Int.reduceSub, Int.reduceNeg, Int.reduceToNat, Int.reduceMul, ↓Vm]
    exact h
  · (repeat (first | exact Fr.refl _ | refine Fr.push ?_ _ | refine Fr.set ?_ _ _ (by intro h; first | omega | (simp only [go_sem] at h; omega))))
theorem q_own {tries last now : Int} (b : Nat) (A : List Jb) (hl : A.length ≤ 1000) (v : Value) (who id : Int) (H : AHeap) (m : MS H b A tries last now v) :
    CC F.law_Model_own [.pointer (some ⟨b, 0, none⟩), .int .i64 who, .int .i64 id] H = some (.tuple #[.int .i64 (if Y7 A who id = 0 then idx A id 0 else 0), .int .i64 (Y7 A who id)], H) := by
  have mf := q_find b A hl v id H m
  have f := m.f
  by_cases h1 : who < 1
  · have hE : Y7 A who id = 2 := by unfold Y7; rw [if_pos (.inl h1)]
    rw [hE, if_neg (by decide)]
    apply Yk _ (WW _ _ _ H) rfl
    rotate_left 2
    · simp (disch := first | with_reducible rfl | assumption | omega | rfl | (simp only [go_sem]; first | done | omega)) only [go_sem, ↓reduceIte, reduceCtorEq, Nat.reduceEqDiff, Nat.reduceAdd, Nat.reduceSub, Nat.reduceMul, Nat.reduceLeDiff, Nat.reduceLT, Int.reduceEq, Int.reduceLT, Int.reduceLE, Int.reduceAdd, Int.reduceSub, Int.reduceNeg, Int.reduceToNat, Int.reduceMul, ↓Xh, ↓Ya mf, Ya mf, h1]
      rfl
    · (repeat (first | exact Fr.refl _ | refine Fr.push ?_ _ | refine Fr.set ?_ _ _ (by intro h; first | omega | (simp only [go_sem] at h; omega))))
  by_cases h2 : 1000 < who
  · have hE : Y7 A who id = 2 := by unfold Y7; rw [if_pos (.inr h2)]
    rw [hE, if_neg (by decide)]
    apply Yk _ (WW _ _ _ H) rfl
    rotate_left 2
    · simp (disch := first | with_reducible rfl | assumption | omega | rfl | (simp only [go_sem]; first | done | omega)) only [go_sem, ↓reduceIte, reduceCtorEq, Nat.reduceEqDiff, Nat.reduceAdd, Nat.reduceSub, Nat.reduceMul, Nat.reduceLeDiff, Nat.reduceLT, Int.reduceEq, Int.reduceLT, Int.reduceLE, Int.reduceAdd, Int.reduceSub, Int.reduceNeg, Int.reduceToNat, Int.reduceMul, ↓Xh, ↓Ya mf, Ya mf, h1, h2]
      rfl
    · (repeat (first | exact Fr.refl _ | refine Fr.push ?_ _ | refine Fr.set ?_ _ _ (by intro h; first | omega | (simp only [go_sem] at h; omega))))
  have hb : ¬ (who < 1 ∨ 1000 < who) := by omega
  rcases Qb (A := A) id with hf | ⟨j, hf⟩
  · have hE : Y7 A who id = 9 := by unfold Y7; rw [if_neg hb, hf]
    rw [idx_none hf] at mf
    rw [hE, if_neg (by decide)]
    apply Yk _ (WW _ _ _ H) rfl
    rotate_left 2
    · simp (disch := first | with_reducible rfl | assumption | omega | rfl | (simp only [go_sem]; first | done | omega)) only [go_sem, ↓reduceIte, reduceCtorEq, Nat.reduceEqDiff, Nat.reduceAdd, Nat.reduceSub, Nat.reduceMul, Nat.reduceLeDiff, Nat.reduceLT, Int.reduceEq, Int.reduceLT, Int.reduceLE, Int.reduceAdd, Int.reduceSub, Int.reduceNeg, Int.reduceToNat, Int.reduceMul, ↓Xh, ↓Ya mf, Ya mf, h1, h2]
      rfl
    · (repeat (first | exact Fr.refl _ | refine Fr.push ?_ _ | refine Fr.set ?_ _ _ (by intro h; first | omega | (simp only [go_sem] at h; omega))))
  · obtain ⟨k, hk, hi, hj, _⟩ := Z7 (i := 0) hf
    rw [Nat.zero_add] at hi
    rw [hi] at mf ⊢
    obtain ⟨b1, o1, ix, _, cb, _⟩ := Vj m.own.rd hk
    have hj' : A[k] = j := by rw [List.getElem?_eq_getElem hk] at hj; exact Option.some.inj hj
    rw [hj'] at cb
    have c3 : Xw (H.f b1) (o1 + 3) = some (.int .i64 j.state) := Y6 cb (i := 3) (by decide)
    have c5 : Xw (H.f b1) (o1 + 5) = some (.int .i64 j.who) := Y6 cb (i := 5) (by decide)
    have hnn : ¬ (k : Int) < 0 := by omega
    by_cases g1 : j.state = 2
    · by_cases g2 : j.who = who
      · have hE : Y7 A who id = 0 := by unfold Y7; rw [if_neg hb, hf]; exact if_pos ⟨g1, g2⟩
        rw [hE, if_pos rfl]
        apply Yk _ (WW _ _ _ H) rfl
        rotate_left 2
        · simp (disch := first | with_reducible rfl | assumption | omega | rfl | (simp only [go_sem]; first | done | omega)) only [go_sem, ↓reduceIte, reduceCtorEq, Nat.reduceEqDiff, Nat.reduceAdd, Nat.reduceSub, Nat.reduceMul, Nat.reduceLeDiff, Nat.reduceLT, Int.reduceEq, Int.reduceLT, Int.reduceLE, Int.reduceAdd, Int.reduceSub, Int.reduceNeg, Int.reduceToNat, Int.reduceMul, ↓Xh, ↓Ya mf, Ya mf, h1, h2, hnn, f, ix, c3, eq_true g1, c5, eq_true g2]
          rfl
        · (repeat (first | exact Fr.refl _ | refine Fr.push ?_ _ | refine Fr.set ?_ _ _ (by intro h; first | omega | (simp only [go_sem] at h; omega))))
      · have hE : Y7 A who id = 8 := by unfold Y7; rw [if_neg hb, hf]; exact if_neg fun h => g2 h.2
        rw [hE, if_neg (by decide)]
        apply Yk _ (WW _ _ _ H) rfl
        rotate_left 2
        · simp (disch := first | with_reducible rfl | assumption | omega | rfl | (simp only [go_sem]; first | done | omega)) only [go_sem, ↓reduceIte, reduceCtorEq, Nat.reduceEqDiff, Nat.reduceAdd, Nat.reduceSub, Nat.reduceMul, Nat.reduceLeDiff, Nat.reduceLT, Int.reduceEq, Int.reduceLT, Int.reduceLE, Int.reduceAdd, Int.reduceSub, Int.reduceNeg, Int.reduceToNat, Int.reduceMul, ↓Xh, ↓Ya mf, Ya mf, h1, h2, hnn, f, ix, c3, eq_true g1, c5, g2]
          rfl
        · (repeat (first | exact Fr.refl _ | refine Fr.push ?_ _ | refine Fr.set ?_ _ _ (by intro h; first | omega | (simp only [go_sem] at h; omega))))
    · have hE : Y7 A who id = 8 := by unfold Y7; rw [if_neg hb, hf]; exact if_neg fun h => g1 h.1
      rw [hE, if_neg (by decide)]
      apply Yk _ (WW _ _ _ H) rfl
      rotate_left 2
      · simp (disch := first | with_reducible rfl | assumption | omega | rfl | (simp only [go_sem]; first | done | omega)) only [go_sem, ↓reduceIte, reduceCtorEq, Nat.reduceEqDiff, Nat.reduceAdd, Nat.reduceSub, Nat.reduceMul, Nat.reduceLeDiff, Nat.reduceLT, Int.reduceEq, Int.reduceLT, Int.reduceLE, Int.reduceAdd, Int.reduceSub, Int.reduceNeg, Int.reduceToNat, Int.reduceMul, ↓Xh, ↓Ya mf, Ya mf, h1, h2, hnn, f, ix, c3, g1]
        rfl
      · (repeat (first | exact Fr.refl _ | refine Fr.push ?_ _ | refine Fr.set ?_ _ _ (by intro h; first | omega | (simp only [go_sem] at h; omega))))
theorem q_before (x y : Jb) (H : AHeap) : CC F.law_before [.agg #[.int .i64 x.id, .int .i64 x.prio, .string x.body, .int .i64 x.state, .int .i64 x.tries, .int .i64 x.who, .int .i64 x.til], .agg #[.int .i64 y.id, .int .i64 y.prio, .string y.body, .int .i64 y.state, .int .i64 y.tries, .int .i64 y.who, .int .i64 y.til]] H = some (.bool (Ze x y), H) := by
  obtain ⟨H1, hH1⟩ : ∃ H1, H.push (.cells [.int .i64 x.id, .int .i64 x.prio, .string x.body, .int .i64 x.state, .int .i64 x.tries, .int .i64 x.who, .int .i64 x.til] T.api_Job true) = H1 := ⟨_, rfl⟩
  obtain ⟨s1, n1, f1⟩ := Yu hH1
  obtain ⟨H2, hH2⟩ : ∃ H2, H1.push (.cells [.int .i64 y.id, .int .i64 y.prio, .string y.body, .int .i64 y.state, .int .i64 y.tries, .int .i64 y.who, .int .i64 y.til] T.api_Job true) = H2 := ⟨_, rfl⟩
  obtain ⟨s2, n2, f2⟩ := Yu hH2
  have g2 : H2.f H.n = .cells [.int .i64 x.id, .int .i64 x.prio, .string x.body, .int .i64 x.state, .int .i64 x.tries, .int .i64 x.who, .int .i64 x.til] T.api_Job true := by rw [s2.f (by omega) fun h => h]; exact f1
  have st := s1.trans s2
  unfold Ze
  by_cases h1 : x.state = y.state
  · rw [if_neg (by simpa using h1)]
    by_cases h2 : x.state = 1
    · by_cases h3 : x.prio = y.prio
      · rw [if_neg (fun h => h.2 h3), if_neg (fun h => by omega)]
        have n2 : ¬ x.state = 2 := by omega
        refine Yk (H' := H2) ?_ (Ug _ _ H) rfl st
        simp (disch := first | with_reducible rfl | assumption | omega | rfl | (simp only [go_sem]; first | done | omega)) only [go_sem, ↓reduceIte, reduceCtorEq, Nat.reduceEqDiff, Nat.reduceAdd, Nat.reduceSub, Nat.reduceMul, Nat.reduceLeDiff, Nat.reduceLT, Int.reduceEq, Int.reduceLT, Int.reduceLE, Int.reduceAdd, Int.reduceSub, Int.reduceNeg, Int.reduceToNat, Int.reduceMul, ↓Wc, hH1, hH2, g2, f2, eq_true h1, eq_true h2, eq_true h3, n2]
      · rw [if_pos ⟨h2, h3⟩]
        refine Yk (H' := H2) ?_ (Ug _ _ H) rfl st
        simp (disch := first | with_reducible rfl | assumption | omega | rfl | (simp only [go_sem]; first | done | omega)) only [go_sem, ↓reduceIte, reduceCtorEq, Nat.reduceEqDiff, Nat.reduceAdd, Nat.reduceSub, Nat.reduceMul, Nat.reduceLeDiff, Nat.reduceLT, Int.reduceEq, Int.reduceLT, Int.reduceLE, Int.reduceAdd, Int.reduceSub, Int.reduceNeg, Int.reduceToNat, Int.reduceMul, ↓Wc, hH1, hH2, g2, f2, eq_true h1, eq_true h2, h3]
    · rw [if_neg (fun h => h2 h.1)]
      by_cases h4 : x.state = 2
      · by_cases h5 : x.til = y.til
        · rw [if_neg (fun h => h.2 h5)]
          refine Yk (H' := H2) ?_ (Ug _ _ H) rfl st
          simp (disch := first | with_reducible rfl | assumption | omega | rfl | (simp only [go_sem]; first | done | omega)) only [go_sem, ↓reduceIte, reduceCtorEq, Nat.reduceEqDiff, Nat.reduceAdd, Nat.reduceSub, Nat.reduceMul, Nat.reduceLeDiff, Nat.reduceLT, Int.reduceEq, Int.reduceLT, Int.reduceLE, Int.reduceAdd, Int.reduceSub, Int.reduceNeg, Int.reduceToNat, Int.reduceMul, ↓Wc, hH1, hH2, g2, f2, eq_true h1, h2, eq_true h4, eq_true h5]
        · rw [if_pos ⟨h4, h5⟩]
          refine Yk (H' := H2) ?_ (Ug _ _ H) rfl st
          simp (disch := first | with_reducible rfl | assumption | omega | rfl | (simp only [go_sem]; first | done | omega)) only [go_sem, ↓reduceIte, reduceCtorEq, Nat.reduceEqDiff, Nat.reduceAdd, Nat.reduceSub, Nat.reduceMul, Nat.reduceLeDiff, Nat.reduceLT, Int.reduceEq, Int.reduceLT, Int.reduceLE, Int.reduceAdd, Int.reduceSub, Int.reduceNeg, Int.reduceToNat, Int.reduceMul, ↓Wc, hH1, hH2, g2, f2, eq_true h1, h2, eq_true h4, h5]
      · rw [if_neg (fun h => h4 h.1)]
        refine Yk (H' := H2) ?_ (Ug _ _ H) rfl st
        simp (disch := first | with_reducible rfl | assumption | omega | rfl | (simp only [go_sem]; first | done | omega)) only [go_sem, ↓reduceIte, reduceCtorEq, Nat.reduceEqDiff, Nat.reduceAdd, Nat.reduceSub, Nat.reduceMul, Nat.reduceLeDiff, Nat.reduceLT, Int.reduceEq, Int.reduceLT, Int.reduceLE, Int.reduceAdd, Int.reduceSub, Int.reduceNeg, Int.reduceToNat, Int.reduceMul, ↓Wc, hH1, hH2, g2, f2, eq_true h1, h2, h4]
  · rw [if_pos h1]
    refine Yk (H' := H2) ?_ (Ug _ _ H) rfl st
    simp (disch := first | with_reducible rfl | assumption | omega | rfl | (simp only [go_sem]; first | done | omega)) only [go_sem, ↓reduceIte, reduceCtorEq, Nat.reduceEqDiff, Nat.reduceAdd, Nat.reduceSub, Nat.reduceMul, Nat.reduceLeDiff, Nat.reduceLT, Int.reduceEq, Int.reduceLT, Int.reduceLE, Int.reduceAdd, Int.reduceSub, Int.reduceNeg, Int.reduceToNat, Int.reduceMul, ↓Wc, hH1, hH2, g2, f2, h1]
end Go.Proofs.YtmiinbhnfojnbaaGreatDoor

set_option maxRecDepth 10000
namespace Go.Proofs.YtmiinbhnfojnbaaGreatDoor
open Go Eng
attribute [local congr] YO YM YI
theorem Own.cellws {H : AHeap} {v : Value} {l : List Jb} {i b o : Nat} (hi : i < l.length) (r : Own EJb H T.api_Job v l) (hix : ixS 7 v (.int .i64 (i : Int)) = some (.pointer (some ⟨b, o, none⟩))) {k : Nat} (hk : k < 7) (a : Jb) (x : Value) (hx1 : Eng.one x = true) (henc : EJb.enc a = (EJb.enc l[i]).set k x) :
    ∃ H', setB H b (wr1 (H.f b) (o + k) x) = some H' ∧ Own EJb H' T.api_Job v (l.set i a) ∧ H'.n = H.n ∧ Fr (fun c => c = b) H H' ∧ H'.ver b = H.clk ∧ VA (H'.f b) o 7 = some a.l := by
  obtain ⟨b', o', H', h1, h2, h3, h4, h5, h6, h7, h8, h9⟩ := Own.cellw r hi hk a x hx1 henc
  rw [hix] at h1
  simp only [Option.some.injEq, Value.pointer.injEq, Addr.mk.injEq] at h1
  obtain ⟨q1, q2, _⟩ := h1
  subst q1 q2
  refine ⟨H', h5, h6, h7, h8, h9, ?_⟩
  obtain ⟨b2, o2, g1, _, g3, _⟩ := Vj h6.rd (i := i) (by simpa using hi)
  rw [hix] at g1
  simp only [Option.some.injEq, Value.pointer.injEq, Addr.mk.injEq] at g1
  obtain ⟨q1, q2, _⟩ := g1
  subst q1 q2
  rw [g3, List.getElem_set_self]
set_option maxHeartbeats 1000000 in
theorem q_lback {tries last now : Int} (b : Nat) (A : List Jb) (v : Value) (i : Nat) (hi : i < A.length) (H : AHeap) (ok : Ok H) (m : MS H b A tries last now v) :
    ∃ H', CC F.law_Model_back [.pointer (some ⟨b, 0, none⟩), .int .i64 (i : Int)] H = some (.tuple #[], H') ∧ MS H' b (A.set i (XK tries A[i])) tries last now v ∧ Fr (LB b v) H H' := by
  obtain ⟨b1, o1, ix, l1, cb, hbv⟩ := Vj m.own.rd hi
  have f := m.f
  have hne : b ≠ b1 := fun e => m.nb (by rw [e]; exact hbv)
  obtain ⟨j, hj⟩ : ∃ j, A[i] = j := ⟨_, rfl⟩
  rw [hj] at cb ⊢
  obtain ⟨H1, w1, r1, n1, s1, v1, c1⟩ := Own.cellws hi m.own ix (k := 3) (by decide) ⟨j.id, j.prio, j.body, 1, j.tries, j.who, j.til⟩ (.int .i64 1) rfl (by rw [hj]; rfl)
  obtain ⟨H2, w2, r2, n2, s2, v2, c2⟩ := Own.cellws (by simpa using hi) r1 ix (k := 5) (by decide) ⟨j.id, j.prio, j.body, 1, j.tries, 0, j.til⟩ (.int .i64 0) rfl (by rw [List.getElem_set_self]; rfl)
  obtain ⟨H3, w3, r3, n3, s3, v3, c3⟩ := Own.cellws (by simpa using hi) r2 ix (k := 6) (by decide) ⟨j.id, j.prio, j.body, 1, j.tries, 0, 0⟩ (.int .i64 0) rfl (by rw [List.getElem_set_self]; rfl)
  rw [List.set_set, List.set_set] at r3
  have s13 := (s1.trans s2).trans s3
  have f3 : H3.f b = .cells [v, .int .i64 tries, .int .i64 last, .int .i64 now] T.law_Model true := by rw [s13.f m.lt hne]; exact f
  have t3 : Xw (H3.f b1) (o1 + 4) = some (.int .i64 j.tries) := Y6 c3 (i := 4) (by decide)
  have hS : ∀ c, c < H.n → c = b1 → LB b v c := fun c _ h => .inr (by rw [h]; exact hbv)
  by_cases c : tries ≤ j.tries
  · obtain ⟨H4, w4, r4, n4, s4, v4, c4⟩ := Own.cellws (by simpa using hi) r3 ix (k := 3) (by decide) ⟨j.id, j.prio, j.body, 3, j.tries, 0, 0⟩ (.int .i64 3) rfl (by rw [List.getElem_set_self]; rfl)
    rw [List.set_set] at r4
    have e : XK tries j = ⟨j.id, j.prio, j.body, 3, j.tries, 0, 0⟩ := by unfold XK; rw [if_pos c]
    have s14 := s13.trans s4
    rw [e]
    refine ⟨H4, (Z9 _ _ H (r := (.tuple #[], H4)) ?_).trans (congrArg some (Vq l1 (ok b1) (by rw [v4]; exact s13.clk))), ⟨by rw [s14.f m.lt hne]; exact f, Nat.lt_of_lt_of_le m.lt s14.n, r4, m.nb⟩, s14.mono hS⟩
    simp (disch := first | with_reducible rfl | assumption | omega | rfl | (simp only [go_sem]; first | done | omega)) only [go_sem, ↓reduceIte, reduceCtorEq, Nat.reduceEqDiff, Nat.reduceAdd, Nat.reduceSub, Nat.reduceMul, Nat.reduceLeDiff, Nat.reduceLT, Int.reduceEq, Int.reduceLT, Int.reduceLE, Int.reduceAdd, Int.reduceSub, Int.reduceNeg, Int.reduceToNat, Int.reduceMul, ↓WB, f, ix, w1, w2, w3, t3, f3, c, w4]
  · have e : XK tries j = ⟨j.id, j.prio, j.body, 1, j.tries, 0, 0⟩ := by unfold XK; rw [if_neg c]
    rw [e]
    refine ⟨H3, (Z9 _ _ H (r := (.tuple #[], H3)) ?_).trans (congrArg some (Vq l1 (ok b1) (by rw [v3]; exact (s1.trans s2).clk))), ⟨f3, Nat.lt_of_lt_of_le m.lt s13.n, r3, m.nb⟩, s13.mono hS⟩
    simp (disch := first | with_reducible rfl | assumption | omega | rfl | (simp only [go_sem]; first | done | omega)) only [go_sem, ↓reduceIte, reduceCtorEq, Nat.reduceEqDiff, Nat.reduceAdd, Nat.reduceSub, Nat.reduceMul, Nat.reduceLeDiff, Nat.reduceLT, Int.reduceEq, Int.reduceLT, Int.reduceLE, Int.reduceAdd, Int.reduceSub, Int.reduceNeg, Int.reduceToNat, Int.reduceMul, ↓WB, f, ix, w1, w2, w3, t3, f3, c]
def Q2 (x : Jb) : List Jb → Nat
  | [] => 0
  | a :: l => if Ze a x = true then Q2 x l + 1 else 0
theorem befN_le (x : Jb) : ∀ l : List Jb, Q2 x l ≤ l.length
  | [] => Nat.le_refl _
  | a :: l => by
    unfold Q2
    have := befN_le x l
    split <;> simp <;> omega
theorem ins_befN (x : Jb) : ∀ l : List Jb, Z3 x l = l.take (Q2 x l) ++ x :: l.drop (Q2 x l)
  | [] => rfl
  | a :: l => by
    unfold Z3 Q2
    split
    · rw [List.take_succ_cons, List.drop_succ_cons, List.cons_append, ← ins_befN x l]
    · rfl
theorem befN_lt {x : Jb} : ∀ {l : List Jb} {k : Nat} (h : k < l.length), k < Q2 x l → Ze l[k] x = true
  | a :: l, 0, _, h => by
    unfold Q2 at h
    split at h
    · rename_i h1; exact h1
    · omega
  | a :: l, k + 1, hl, h => by
    unfold Q2 at h
    split at h
    · exact befN_lt (l := l) (by simpa using hl) (by omega)
    · omega
theorem befN_at {x : Jb} : ∀ {l : List Jb} (h : Q2 x l < l.length), Ze (l[Q2 x l]'h) x = false
  | [], h => by simp at h
  | a :: l, h => by
    by_cases h1 : Ze a x = true
    · have e : Q2 x (a :: l) = Q2 x l + 1 := by rw [Q2, if_pos h1]
      have h2 : Q2 x l < l.length := by rw [e] at h; simpa using h
      have := befN_at h2
      simp only [e, List.getElem_cons_succ]
      exact this
    · have e : Q2 x (a :: l) = 0 := by rw [Q2, if_neg h1]
      simp only [e, List.getElem_cons_zero]
      simpa using h1
theorem l_sorted1 {tries last now : Int} (b : Nat) (A : List Jb) (hl : A.length ≤ 1000) (v : Value) (i : Nat) (hi : i < A.length) (H : AHeap) (m : MS H b A tries last now v) (w : Value) (out : List Jb) (ho : out.length ≤ 1000) (rw0 : Rd EJb H w out) (K : K) : ∀ (d k : Nat), k + d = Q2 A[i] out →
    Y5 (.pointer (some ⟨b, 0, none⟩)) w (.int .i64 (i : Int)) (.int .i64 (k : Int)) H (YB [0, 3, 4, 5] 2 K) = K .normal [(0, .pointer (some ⟨b, 0, none⟩)), (3, w), (4, .int .i64 (i : Int)), (5, .int .i64 (Q2 A[i] out : Int))] H
  | d, k, hd => by
    obtain ⟨b1, o1, ix, l1, cb, hbv⟩ := Vj m.own.rd hi
    have f := m.f
    have hlen := rw0.lenS
    have hle := befN_le A[i] out
    obtain ⟨x, hx⟩ : ∃ x, A[i] = x := ⟨_, rfl⟩
    rw [hx] at cb hd hle ⊢
    have cb : VA (H.f b1) o1 7 = some [.int .i64 x.id, .int .i64 x.prio, .string x.body, .int .i64 x.state, .int .i64 x.tries, .int .i64 x.who, .int .i64 x.til] := cb
    by_cases h : k < out.length
    · have hlt : (k : Int) < (out.length : Int) := by omega
      obtain ⟨b2, o2, ix2, l2, c2, _⟩ := Vj rw0 h
      obtain ⟨y, hy⟩ : ∃ y, out[k] = y := ⟨_, rfl⟩
      rw [hy] at c2
      have c2 : VA (H.f b2) o2 7 = some [.int .i64 y.id, .int .i64 y.prio, .string y.body, .int .i64 y.state, .int .i64 y.tries, .int .i64 y.who, .int .i64 y.til] := c2
      have mb := q_before y x H
      match d with
      | 0 =>
        obtain rfl : k = Q2 x out := hd
        have hb : Ze y x = false := by rw [← hy]; exact befN_at h
        rw [hb] at mb
        rw [VY]
        simp (disch := first | with_reducible rfl | assumption | omega | rfl | (simp only [go_sem]; first | done | omega)) only [go_sem, ↓reduceIte, reduceCtorEq, Nat.reduceEqDiff, Nat.reduceAdd, Nat.reduceSub, Nat.reduceMul, Nat.reduceLeDiff, Nat.reduceLT, Int.reduceEq, Int.reduceLT, Int.reduceLE, Int.reduceAdd, Int.reduceSub, Int.reduceNeg, Int.reduceToNat, Int.reduceMul, ↓X1, hlen, hlt, ix2, c2, f, ix, cb, ↓Ya mb, Ya mb]
      | d + 1 =>
        have hb : Ze y x = true := by rw [← hy]; exact befN_lt h (by omega)
        rw [hb] at mb
        have ih := l_sorted1 b A hl v i hi H m w out ho rw0 K d (k + 1) (by rw [hx]; omega)
        rw [hx, Int.natCast_add] at ih
        rw [VY]
        simp (disch := first | with_reducible rfl | assumption | omega | rfl | (simp only [go_sem]; first | done | omega)) only [go_sem, ↓reduceIte, reduceCtorEq, Nat.reduceEqDiff, Nat.reduceAdd, Nat.reduceSub, Nat.reduceMul, Nat.reduceLeDiff, Nat.reduceLT, Int.reduceEq, Int.reduceLT, Int.reduceLE, Int.reduceAdd, Int.reduceSub, Int.reduceNeg, Int.reduceToNat, Int.reduceMul, ↓X1, hlen, hlt, ix2, c2, f, ix, cb, ↓Ya mb, Ya mb]
        exact ih
    · obtain rfl : k = Q2 x out := by omega
      have hlt : ¬ ((Q2 x out : Nat) : Int) < (out.length : Int) := by omega
      rw [VY]
      simp (disch := first | with_reducible rfl | assumption | omega | rfl | (simp only [go_sem]; first | done | omega)) only [go_sem, ↓reduceIte, reduceCtorEq, Nat.reduceEqDiff, Nat.reduceAdd, Nat.reduceSub, Nat.reduceMul, Nat.reduceLeDiff, Nat.reduceLT, Int.reduceEq, Int.reduceLT, Int.reduceLE, Int.reduceAdd, Int.reduceSub, Int.reduceNeg, Int.reduceToNat, Int.reduceMul, ↓X1, hlen, hlt]
end Go.Proofs.YtmiinbhnfojnbaaGreatDoor

set_option maxRecDepth 10000
namespace Go.Proofs.YtmiinbhnfojnbaaGreatDoor
open Go Eng
attribute [local congr] YO YM YI
set_option maxHeartbeats 1000000 in
theorem l_sorted {tries last now : Int} (b : Nat) (A : List Jb) (hl : A.length ≤ 1000) (v : Value) (H0 : AHeap) (m0 : MS H0 b A tries last now v) :
    ∀ (t : List Jb) (i : Nat) (H : AHeap) (w : Value) (out : List Jb), A.drop i = t → SinceE EJb T.api_Job H0 H w out → out.length ≤ i →
    ∃ w' H', SinceE EJb T.api_Job H0 H' w' (t.foldl (fun o x => Z3 x o) out) ∧ ∀ K : K, Y4 (.pointer (some ⟨b, 0, none⟩)) w (.int .i64 (i : Int)) H (YB [3] 0 K) = K .normal [(3, w')] H'
  | [], i, H, w, out, hx, so, ho => by
    have h : A.length ≤ i := List.drop_eq_nil_iff.1 hx
    have hlt : ¬ (i : Int) < (A.length : Int) := by omega
    have m := m0.still so.still
    have hlen := m.own.rd.lenS
    have f := m.f
    refine ⟨w, H, so, fun K => ?_⟩
    rw [QE]
    simp (disch := first | with_reducible rfl | assumption | omega | rfl | (simp only [go_sem]; first | done | omega)) only [go_sem, ↓reduceIte, reduceCtorEq, Nat.reduceEqDiff, Nat.reduceAdd, Nat.reduceSub, Nat.reduceMul, Nat.reduceLeDiff, Nat.reduceLT, Int.reduceEq, Int.reduceLT, Int.reduceLE, Int.reduceAdd, Int.reduceSub, Int.reduceNeg, Int.reduceToNat, Int.reduceMul, ↓WS, f, hlen, hlt]
  | x :: t, i, H, w, out, hx, so, ho => by
    obtain ⟨h, hxa, hx'⟩ := Xt hx
    have hlt : (i : Int) < (A.length : Int) := by omega
    have m := m0.still so.still
    have hlen := m.own.rd.lenS
    have f := m.f
    have e1 : ((i : Int) + 1) = ((i + 1 : Nat) : Int) := by omega
    have k1 := fun K => l_sorted1 b A hl v i h H m w out (by omega) so.own.rd K (Q2 A[i] out) 0 (by omega)
    rw [hxa] at k1
    obtain ⟨b1, o1, ix, l1, cb, hbv⟩ := Vj m.own.rd h
    rw [hxa] at cb
    have cb : VA (H.f b1) o1 7 = some [.int .i64 x.id, .int .i64 x.prio, .string x.body, .int .i64 x.state, .int .i64 x.tries, .int .i64 x.who, .int .i64 x.til] := cb
    have hle := befN_le x out
    obtain ⟨k, hk⟩ : ∃ k, Q2 x out = k := ⟨_, rfl⟩
    have hins := ins_befN x out
    rw [hk] at k1 hle hins
    obtain ⟨H1, hH1⟩ : ∃ H1, H.push (.cells [.int .i64 x.id, .int .i64 x.prio, .string x.body, .int .i64 x.state, .int .i64 x.tries, .int .i64 x.who, .int .i64 x.til] T.api_Job true) = H1 := ⟨_, rfl⟩
    obtain ⟨s1, n1, f1⟩ := Yu hH1
    have r43 : RdS EJb T.api_Job H1 (.slice (some ⟨H.n, 0, none⟩) 1 2) [x] := newE (E := EJb) (l := [x]) (by omega) f1
    obtain ⟨w46, d1, d2, _⟩ := (so.own.still s1).drop (sz := 7) rfl (i := k) hle (q := .i64)
    obtain ⟨w47, H2, a1, a2, a3, _⟩ := Eng.Rd.appX (e := T.api_Job) (m := out.drop k) r43.1 (sz := 7) (bytes := 64) rfl (by simp; omega) (by simp; omega) (d2.rd.src rfl) (by simp)
    have a1 : Eng.app T.api_Job 7 64 (.slice (some ⟨H.n, 0, none⟩) 1 2) (Wi 7 w46 H1) H1 = some (w47, H2) := a1
    have st2 : Yr H H2 := s1.trans a3
    obtain ⟨w50, c1, c2⟩ := (so.own.still st2).hi (sz := 7) rfl (i := k) hle (q := .i64)
    obtain ⟨w51, H3, g1, g2⟩ := (SinceE.nil (E := EJb) (e := T.api_Job) (H := H2)).app (out.take k) (sz := 7) (bytes := 64) rfl (by decide) (c2.src rfl) (by simp; omega)
    have g1 : Eng.app T.api_Job 7 64 (.slice none 0 0) (Wi 7 w50 H2) H2 = some (w51, H3) := g1
    rw [List.nil_append] at g2
    have r47 : Rd EJb H3 w47 (x :: out.drop k) := a2.still g2.still
    obtain ⟨w53, H4, q1, q2⟩ := g2.app (x :: out.drop k) (sz := 7) (bytes := 64) rfl (by decide) (r47.src rfl) (by simp; omega)
    have q1 : Eng.app T.api_Job 7 64 w51 (Wi 7 w47 H3) H3 = some (w53, H4) := q1
    rw [← hins] at q2
    have so' : SinceE EJb T.api_Job H0 H4 w53 (Z3 x out) := ⟨(so.still.trans st2).trans q2.still, q2.own, fun b hb => Nat.le_trans (Nat.le_trans so.still.n st2.n) (q2.new b hb)⟩
    obtain ⟨w', H', so'', e'⟩ := l_sorted b A hl v H0 m0 t (i + 1) H4 w53 (Z3 x out) hx' so' (by rw [len_insJ]; omega)
    have k1 : ∀ K : K, Y5 (.pointer (some ⟨b, 0, none⟩)) w (.int .i64 (i : Int)) (.int .i64 0) H (YB [0, 3, 4, 5] 2 K) = K .normal [(0, .pointer (some ⟨b, 0, none⟩)), (3, w), (4, .int .i64 (i : Int)), (5, .int .i64 (k : Int))] H := k1
    refine ⟨w', H', so'', fun K => ?_⟩
    have e' := e' K
    rw [← e1] at e'
    rw [QE]
    simp (disch := first | with_reducible rfl | assumption | omega | rfl | (simp only [go_sem]; first | done | omega)) only [go_sem, ↓reduceIte, reduceCtorEq, Nat.reduceEqDiff, Nat.reduceAdd, Nat.reduceSub, Nat.reduceMul, Nat.reduceLeDiff, Nat.reduceLT, Int.reduceEq, Int.reduceLT, Int.reduceLE, Int.reduceAdd, Int.reduceSub, Int.reduceNeg, Int.reduceToNat, Int.reduceMul, ↓WS, f, hlen, hlt, k1, ix, cb, hH1, d1, a1, c1, g1, q1]
    exact e'
theorem q_sorted {tries last now : Int} (b : Nat) (A : List Jb) (hl : A.length ≤ 1000) (v : Value) (H : AHeap) (m : MS H b A tries last now v) :
    ∃ w H', CC F.law_Model_sorted [.pointer (some ⟨b, 0, none⟩)] H = some (w, H') ∧ SinceE EJb T.api_Job H H' w (WC A) := by
  obtain ⟨w, H1, so, e⟩ := l_sorted b A hl v H m A 0 H (.slice none 0 0) [] rfl SinceE.nil (by simp)
  have e : ∀ K : K, Y4 (.pointer (some ⟨b, 0, none⟩)) (.slice none 0 0) (.int .i64 0) H (YB [3] 0 K) = K .normal [(3, w)] H1 := e
  obtain ⟨H2, h1, h2⟩ := ZP so (d_law_Model_sorted (.pointer (some ⟨b, 0, none⟩)) H (r := (w, H1)) (by simp (disch := first | with_reducible rfl | assumption | omega | rfl | (simp only [go_sem]; first | done | omega)) only [go_sem, ↓reduceIte, reduceCtorEq, Nat.reduceEqDiff, Nat.reduceAdd, Nat.reduceSub, Nat.reduceMul, Nat.reduceLeDiff, Nat.reduceLT, Int.reduceEq, Int.reduceLT, Int.reduceLE, Int.reduceAdd, Int.reduceSub, Int.reduceNeg, Int.reduceToNat, Int.reduceMul, ↓WO, e]))
  exact ⟨w, H2, h1, h2⟩
theorem q_lnum (n : Int) (H : AHeap) (h0 : 0 ≤ n) (h1 : n ≤ 1099511627776) : CC F.law_number [.int .i64 n] H = some (.agg #[.int .i64 1, .int .u64 n, .int .i64 0, .string (Eng.mk []), .bool false], H) := by
  have e : IntKind.wrap .u64 n = n := QH ⟨h0, by omega⟩
  apply Yk _ (d_law_number _ H) rfl
  rotate_left 2
  · simp (disch := first | with_reducible rfl | assumption | omega | rfl | (simp only [go_sem]; first | done | omega)) only [go_sem, ↓reduceIte, reduceCtorEq, Nat.reduceEqDiff, Nat.reduceAdd, Nat.reduceSub, Nat.reduceMul, Nat.reduceLeDiff, Nat.reduceLT, Int.reduceEq, Int.reduceLT, Int.reduceLE, Int.reduceAdd, Int.reduceSub, Int.reduceNeg, Int.reduceToNat, Int.reduceMul, ↓UV, e, Vv]
    rfl
  · (repeat (first | exact Fr.refl _ | refine Fr.push ?_ _ | refine Fr.set ?_ _ _ (by intro h; first | omega | (simp only [go_sem] at h; omega))))
theorem putsE_mem : ∀ (t : List Jb) (M : List Pr), (∀ j ∈ t, JOk j) → Srt M → M.length + t.length < 20000 → t.Pairwise (fun a b => a.id < b.id) →
    Srt (t.foldl (fun M j => (putE M (prJ j)).2) M) ∧ ∀ p, p ∈ t.foldl (fun M j => (putE M (prJ j)).2) M ↔ (∃ a ∈ t, prJ a = p) ∨ (p ∈ M ∧ ∀ a ∈ t, p.key ≠ XZ a)
  | [], M, _, hs, _, _ => ⟨hs, fun p => by simp⟩
  | j :: t, M, ho, hs, hl, hp => by
    obtain ⟨hj, hp'⟩ := List.pairwise_cons.1 hp
    have hjo := ho j (by simp)
    have hlen : (putE M (prJ j)).2.length ≤ M.length + 1 := by
      unfold putE
      rw [if_pos (show chk (prJ j).key [(prJ j).value] = 0 from chkJ hjo)]
      unfold Gy
      split
      · simp
      · split
        · simp
        · simp; omega
    obtain ⟨h1, h2⟩ := putsE_mem t (putE M (prJ j)).2 (fun x hx => ho x (by simp [hx])) (srt_putE hs _) (by simp at hl; omega) hp'
    rw [List.foldl_cons]
    refine ⟨h1, fun p => ?_⟩
    rw [h2 p, mem_putE hs (a := prJ j) (chkJ hjo) (by simp at hl; omega)]
    constructor
    · rintro (⟨a, ha, e⟩ | ⟨h3 | ⟨h3, h4⟩, h5⟩)
      · exact .inl ⟨a, by simp [ha], e⟩
      · exact .inl ⟨j, by simp, h3.symm⟩
      · refine .inr ⟨h3, fun a ha => ?_⟩
        rcases List.mem_cons.1 ha with rfl | ha
        · exact h4
        · exact h5 a ha
    · rintro (⟨a, ha, e⟩ | ⟨h3, h4⟩)
      · rcases List.mem_cons.1 ha with rfl | ha
        · refine .inr ⟨.inl e.symm, fun x hx => ?_⟩
          rw [← e]
          exact fun he => by have := keyJ_inj hjo (ho x (by simp [hx])) he; have := hj x hx; omega
        · exact .inl ⟨a, ha, e⟩
      · exact .inr ⟨.inr ⟨h3, h4 j (by simp)⟩, fun a ha => h4 a (by simp [ha])⟩
theorem puts_mapJ {A : List Jb} {n : Int} (h : AOk A n) (hl : A.length < 20000) : A.foldl (fun M j => (putE M (prJ j)).2) [] = Uk A := by
  obtain ⟨h1, h2⟩ := putsE_mem A [] h.ok List.Pairwise.nil (by simpa using hl) h.inc
  refine srt_ext h1 h.srt fun p => ?_
  rw [h2 p, QL]
  simp
set_option maxHeartbeats 2000000 in
theorem l_pairs {tries last now : Int} (b : Nat) (A : List Jb) (hA : ∀ j ∈ A, JOk j) (hl : A.length ≤ 1000) (v : Value) (bt : Nat) (kv rv : Value) (ho1 : Eng.one kv = true) (ho2 : Eng.one rv = true) (H0 : AHeap) (ok0 : Ok H0) (m0 : MS H0 b A tries last now v) (Ht : AHeap) (st : Yr H0 Ht) (ht : Ht.f bt = .cells [.int .i64 1, kv, rv] T.api_Table true) (hbt : bt < Ht.n) (hk : KR Ht kv kK) (hr : KR Ht rv kR) (bm : Nat) :
    ∀ (t : List Jb) (i : Nat) (H : AHeap) (M : List Pr), A.drop i = t → Ui Ht H bm M → M.length ≤ i →
    ∃ H', Ui Ht H' bm (t.foldl (fun M j => (putE M (prJ j)).2) M) ∧ ∀ K : K, Xm (.pointer (some ⟨b, 0, none⟩)) (.pointer (some ⟨bt, 0, none⟩)) (.pointer (some ⟨bm, 0, none⟩)) (.int .i64 (i : Int)) H (YB [5] 0 K) = K .normal [(5, .pointer (some ⟨bm, 0, none⟩))] H'
  | [], i, H, M, hx, fr, hM => by
    have h : A.length ≤ i := List.drop_eq_nil_iff.1 hx
    have hlt : ¬ (i : Int) < (A.length : Int) := by omega
    have m := m0.still (st.trans fr.still)
    have hlen := m.own.rd.lenS
    have f := m.f
    refine ⟨H, fr, fun K => ?_⟩
    rw [QU]
    simp (disch := first | with_reducible rfl | assumption | omega | rfl | (simp only [go_sem]; first | done | omega)) only [go_sem, ↓reduceIte, reduceCtorEq, Nat.reduceEqDiff, Nat.reduceAdd, Nat.reduceSub, Nat.reduceMul, Nat.reduceLeDiff, Nat.reduceLT, Int.reduceEq, Int.reduceLT, Int.reduceLE, Int.reduceAdd, Int.reduceSub, Int.reduceNeg, Int.reduceToNat, Int.reduceMul, ↓XG, f, hlen, hlt]
  | j :: t, i, H, M, hx, fr, hM => by
    obtain ⟨h, hxa, hx'⟩ := Xt hx
    have hlt : (i : Int) < (A.length : Int) := by omega
    have m := m0.still (st.trans fr.still)
    have hlen := m.own.rd.lenS
    have f := m.f
    have hj := hA j (by rw [← hxa]; exact List.getElem_mem h)
    have e1 : ((i : Int) + 1) = ((i + 1 : Nat) : Int) := by omega
    obtain ⟨b1, o1, ix, l1, cb, hbv⟩ := Vj m.own.rd h
    rw [hxa] at cb
    have cb : VA (H.f b1) o1 7 = some [.int .i64 j.id, .int .i64 j.prio, .string j.body, .int .i64 j.state, .int .i64 j.tries, .int .i64 j.who, .int .i64 j.til] := cb
    obtain ⟨H1, hH1⟩ : ∃ H1, H.push (.cells [.int .i64 0, .int .i64 0, .string (Eng.mk []), .int .i64 0, .int .i64 0, .int .i64 0, .int .i64 0] T.api_Job true) = H1 := ⟨_, rfl⟩
    obtain ⟨s1, n1, f1⟩ := Yu hH1
    obtain ⟨H2, hH2⟩ : ∃ H2, H1.set H.n (.cells [.int .i64 j.id, .int .i64 j.prio, .string j.body, .int .i64 j.state, .int .i64 j.tries, .int .i64 j.who, .int .i64 j.til] T.api_Job true) = H2 := ⟨_, rfl⟩
    obtain ⟨s2, n2, f2, _⟩ := YH hH2
    have st2 : Yr H H2 := s1.then s2 fun b hb h => by omega
    have tb2 : H2.f bt = .cells [.int .i64 1, kv, rv] T.api_Table true := by
      rw [st2.f (Nat.lt_of_lt_of_le hbt fr.still.n) fun h => h, fr.still.f hbt fun h => h]; exact ht
    obtain ⟨H3, hH3⟩ : ∃ H3, H2.push (.cells (ECl.cells (ZM j)) T.api_Cell true) = H3 := ⟨_, rfl⟩
    obtain ⟨s3, n3, f3⟩ := Yu hH3
    have st3 := st2.trans s3
    have ok3 : Ok H3 := ok0.fr ((st.trans fr.still).trans st3)
    have hk3 : KR H3 kv kK := hk.still (fr.still.trans st3)
    have hr3 : KR H3 rv kR := hr.still (fr.still.trans st3)
    have hv3 : CR H3 (.slice (some ⟨H2.n, 0, none⟩) 7 14) (ZM j) := newE (E := ECl) (l := ZM j) (by omega) f3
    have mr := r_tab hj ok3 hk3 hr3 hv3
    have e : ECl.cells (ZM j) = [.int .i64 1, .int .u64 j.state, .int .i64 0, .string (Eng.mk []), .bool false, .int .i64 1, .int .u64 (V3 j), .int .i64 0, .string (Eng.mk []), .bool false, .int .i64 1, .int .u64 j.id, .int .i64 0, .string (Eng.mk []), .bool false, .int .i64 1, .int .u64 j.prio, .int .i64 0, .string (Eng.mk []), .bool false, .int .i64 3, .int .u64 0, .int .i64 0, .string j.body, .bool false, .int .i64 1, .int .u64 j.tries, .int .i64 0, .string (Eng.mk []), .bool false, .int .i64 1, .int .u64 j.who, .int .i64 0, .string (Eng.mk []), .bool false] := rfl
    rw [e] at hH3
    have ob := ord_bound hj
    have a1 := hj.id
    have a2 := hj.prio
    have a3 := hj.state
    have a4 := hj.tries
    have a5 := hj.who
    have q1 := q_lnum j.state H2 (by omega) (by omega)
    have q2 := q_lnum (V3 j) H2 ob.1 ob.2
    have q3 := q_lnum j.id H2 (by omega) (by omega)
    have q4 := q_lnum j.prio H2 (by omega) (by omega)
    have q5 := q_lnum j.tries H2 (by omega) (by omega)
    have q6 := q_lnum j.who H2 (by omega) (by omega)
    have fr3 := fr.to st3
    obtain ⟨H4, g1, g2, _⟩ := fr3.put (prJ j)
    rw [putE_zero (a := prJ j) (chkJ hj) (by omega)] at g1
    have g1 : CC F.model_Model_Put [.pointer (some ⟨bm, 0, none⟩), .string (XZ j), .string (valJ j)] H3 = some (.int .i64 0, H4) := g1
    have hlen4 : (putE M (prJ j)).2.length ≤ M.length + 1 := by
      unfold putE
      rw [if_pos (show chk (prJ j).key [(prJ j).value] = 0 from chkJ hj)]
      unfold Gy
      split
      · simp
      · split
        · simp
        · simp; omega
    obtain ⟨H', fr', e'⟩ := l_pairs b A hA hl v bt kv rv ho1 ho2 H0 ok0 m0 Ht st ht hbt hk hr bm t (i + 1) H4 (putE M (prJ j)).2 hx' g2 (by omega)
    refine ⟨H', fr', fun K => ?_⟩
    have e' := e' K
    rw [← e1] at e'
    rw [QU]
    by_cases c1 : j.state = 1
    · have : V3 j = 9 - j.prio := by unfold V3; rw [if_pos c1]
      rw [this] at q2 hH3
      have c2 : ¬ j.state = 2 := by omega
      simp (maxSteps := 2000000) (disch := first | with_reducible rfl | assumption | omega | rfl | (simp only [go_sem]; first | done | omega)) only [go_sem, ↓reduceIte, reduceCtorEq, Nat.reduceEqDiff, Nat.reduceAdd, Nat.reduceSub, Nat.reduceMul, Nat.reduceLeDiff, Nat.reduceLT, Int.reduceEq, Int.reduceLT, Int.reduceLE, Int.reduceAdd, Int.reduceSub, Int.reduceNeg, Int.reduceToNat, Int.reduceMul, XG, f, hlen, hlt, ix, cb, hH1, f1, hH2, f2, eq_true c1, c2, tb2, ↓Ya q1, Ya q1, ↓Ya q2, Ya q2, ↓Ya q3, Ya q3, ↓Ya q4, Ya q4, ↓Ya q5, Ya q5, ↓Ya q6, Ya q6, hH3, ↓Ya mr, Ya mr, ↓Ya g1, Ya g1]
      exact e'
    · by_cases c2 : j.state = 2
      · have : V3 j = j.til := by unfold V3; rw [if_neg c1, if_pos c2]
        rw [this] at q2 hH3
        simp (maxSteps := 2000000) (disch := first | with_reducible rfl | assumption | omega | rfl | (simp only [go_sem]; first | done | omega)) only [go_sem, ↓reduceIte, reduceCtorEq, Nat.reduceEqDiff, Nat.reduceAdd, Nat.reduceSub, Nat.reduceMul, Nat.reduceLeDiff, Nat.reduceLT, Int.reduceEq, Int.reduceLT, Int.reduceLE, Int.reduceAdd, Int.reduceSub, Int.reduceNeg, Int.reduceToNat, Int.reduceMul, XG, f, hlen, hlt, ix, cb, hH1, f1, hH2, f2, c1, eq_true c2, tb2, ↓Ya q1, Ya q1, ↓Ya q2, Ya q2, ↓Ya q3, Ya q3, ↓Ya q4, Ya q4, ↓Ya q5, Ya q5, ↓Ya q6, Ya q6, hH3, ↓Ya mr, Ya mr, ↓Ya g1, Ya g1]
        exact e'
      · have : V3 j = 0 := by unfold V3; rw [if_neg c1, if_neg c2]
        rw [this] at q2 hH3
        simp (maxSteps := 2000000) (disch := first | with_reducible rfl | assumption | omega | rfl | (simp only [go_sem]; first | done | omega)) only [go_sem, ↓reduceIte, reduceCtorEq, Nat.reduceEqDiff, Nat.reduceAdd, Nat.reduceSub, Nat.reduceMul, Nat.reduceLeDiff, Nat.reduceLT, Int.reduceEq, Int.reduceLT, Int.reduceLE, Int.reduceAdd, Int.reduceSub, Int.reduceNeg, Int.reduceToNat, Int.reduceMul, XG, f, hlen, hlt, ix, cb, hH1, f1, hH2, f2, c1, c2, tb2, ↓Ya q1, Ya q1, ↓Ya q2, Ya q2, ↓Ya q3, Ya q3, ↓Ya q4, Ya q4, ↓Ya q5, Ya q5, ↓Ya q6, Ya q6, hH3, ↓Ya mr, Ya mr, ↓Ya g1, Ya g1]
        exact e'
end Go.Proofs.YtmiinbhnfojnbaaGreatDoor

set_option maxRecDepth 10000
namespace Go.Proofs.YtmiinbhnfojnbaaGreatDoor
open Go Eng
attribute [local congr] YO YM YI
theorem q_pairs {tries last now n : Int} (b : Nat) (A : List Jb) (ha : AOk A n) (hl : A.length ≤ 1000) (v : Value) (H : AHeap) (ok : Ok H) (m : MS H b A tries last now v) :
    ∃ bm H', CC F.law_Model_pairs [.pointer (some ⟨b, 0, none⟩)] H = some (.pointer (some ⟨bm, 0, none⟩), H') ∧ Mdl H' bm (Uk A) ∧ Yr H H' ∧ (∀ c, MB H' bm c → H.n ≤ c) := by
  obtain ⟨H1, hH1⟩ : ∃ H1, H.push (.cells [.int .i64 1, .int .i64 1, .int .i64 1] T.api_CellKind true) = H1 := ⟨_, rfl⟩
  obtain ⟨s1, n1, f1⟩ := Yu hH1
  obtain ⟨H2, hH2⟩ : ∃ H2, H1.push (.cells [.int .i64 1, .int .i64 3, .int .i64 1, .int .i64 1] T.api_CellKind true) = H2 := ⟨_, rfl⟩
  obtain ⟨s2, n2, f2⟩ := Yu hH2
  obtain ⟨H3, hH3⟩ : ∃ H3, H2.push (.cells [.int .i64 0, .slice none 0 0, .slice none 0 0] T.api_Table true) = H3 := ⟨_, rfl⟩
  obtain ⟨s3, n3, f3⟩ := Yu hH3
  obtain ⟨H4, hH4⟩ : ∃ H4, H3.set H2.n (.cells [.int .i64 1, .slice (some ⟨H.n, 0, none⟩) 3 6, .slice (some ⟨H1.n, 0, none⟩) 4 8] T.api_Table true) = H4 := ⟨_, rfl⟩
  obtain ⟨s4, n4, f4, _⟩ := YH hH4
  obtain ⟨H5, hH5⟩ : ∃ H5, H4.push (.cells [.slice none 0 0] T.model_Model true) = H5 := ⟨_, rfl⟩
  obtain ⟨s5, n5, f5⟩ := Yu hH5
  have k1 : KR H3 (.slice (some ⟨H.n, 0, none⟩) 3 6) kK := ((newE (E := EK) (l := kK) (b := H.n) (by omega) f1).still s2).still s3
  have k2 : KR H3 (.slice (some ⟨H1.n, 0, none⟩) 4 8) kR := (newE (E := EK) (l := kR) (b := H1.n) (by omega) f2).still s3
  have st4 : Yr H H4 := ((s1.trans s2).trans s3).then s4 fun b hb h => by omega
  have fs := Ui.start (ok.fr st4) hH5
  obtain ⟨H6, fr, e⟩ := l_pairs b A ha.ok hl v H2.n _ _ rfl rfl H ok m H4 st4 f4 (by omega) (k1.keep s4 fun b hb h => by cases hb; dsimp only at h; omega) (k2.keep s4 fun b hb h => by cases hb; dsimp only at h; omega) H4.n A 0 H5 [] rfl fs (by simp)
  rw [puts_mapJ ha (by omega)] at fr
  have e : ∀ K : K, Xm (.pointer (some ⟨b, 0, none⟩)) (.pointer (some ⟨H2.n, 0, none⟩)) (.pointer (some ⟨H4.n, 0, none⟩)) (.int .i64 0) H5 (YB [5] 0 K) = K .normal [(5, .pointer (some ⟨H4.n, 0, none⟩))] H6 := e
  refine ⟨H4.n, H6, (d_law_Model_pairs _ H (r := (.pointer (some ⟨H4.n, 0, none⟩), H6)) ?_).trans (congrArg some (YP rfl)), fr.mdl, st4.trans fr.still, fun c hc => Nat.le_trans st4.n (fr.new c hc)⟩
  simp (disch := first | with_reducible rfl | assumption | omega | rfl | (simp only [go_sem]; first | done | omega)) only [go_sem, ↓reduceIte, reduceCtorEq, Nat.reduceEqDiff, Nat.reduceAdd, Nat.reduceSub, Nat.reduceMul, Nat.reduceLeDiff, Nat.reduceLT, Int.reduceEq, Int.reduceLT, Int.reduceLE, Int.reduceAdd, Int.reduceSub, Int.reduceNeg, Int.reduceToNat, Int.reduceMul, ↓W1, hH1, hH2, hH3, f3, hH4, hH5, e]
set_option maxHeartbeats 1000000 in
theorem l_alike1 (bq bm bk bl : Nat) (A : List Jb) (tries last now : Int) (w v7 v8 : Value) (i6 : Int) (Hl : AHeap) (q : QS Hl bq bm bk A tries last now) (hw : Rd EJb Hl w (WC A)) (hwb : ∀ b, Ye w = some b → b < Hl.n) :
    ∀ (t : List Jb) (i : Nat) (H : AHeap) (o : List Jb), (WC A).drop i = t → o.length = i → SinceE EJb T.api_Job Hl H v7 (o ++ t) →
    ∃ H' l', SinceE EJb T.api_Job Hl H' v7 l' ∧ Fr (fun c => Ye v7 = some c) H H' ∧
      ∀ K : K, Wz (.pointer (some ⟨bq, 0, none⟩)) (.pointer (some ⟨bl, 0, none⟩)) w (.int .i64 i6) v7 v8 (.int .i64 (i : Int)) H (YB [0, 1, 5, 6, 8] 2 K) = K .normal [(0, .pointer (some ⟨bq, 0, none⟩)), (1, .pointer (some ⟨bl, 0, none⟩)), (5, w), (6, .int .i64 i6), (8, v8)] H'
  | [], i, H, o, hx, ho, so => by
    have hlen := so.own.rd.lenS
    rw [List.append_nil, ho] at hlen
    have hlt : ¬ (i : Int) < (i : Int) := by omega
    refine ⟨H, _, so, Fr.refl H, fun K => ?_⟩
    rw [r_law_alike_1]
    simp (disch := first | with_reducible rfl | assumption | omega | rfl | (simp only [go_sem]; first | done | omega)) only [go_sem, ↓reduceIte, reduceCtorEq, Nat.reduceEqDiff, Nat.reduceAdd, Nat.reduceSub, Nat.reduceMul, Nat.reduceLeDiff, Nat.reduceLT, Int.reduceEq, Int.reduceLT, Int.reduceLE, Int.reduceAdd, Int.reduceSub, Int.reduceNeg, Int.reduceToNat, Int.reduceMul, ↓Qa, hlen, hlt]
  | j :: t, i, H, o, hx, ho, so => by
    obtain ⟨h, hxa, hx'⟩ := Xt hx
    have hlen := so.own.rd.lenS
    have hlt : (i : Int) < ((o ++ j :: t).length : Int) := by simp; omega
    have hib : i < 1000 := by rw [len_srt] at h; have := q.i.len; omega
    have hjA : j ∈ A := by have := List.getElem_mem h; rw [hxa] at this; exact US.1 this
    have hi : i < (o ++ j :: t).length := by simp; omega
    have hij : (o ++ j :: t)[i] = j := by simp [← ho]
    obtain ⟨b1, o1, ix, l1, cb, hbv⟩ := Vj so.own.rd hi
    rw [hij] at cb
    have hwH : Rd EJb H w (WC A) := hw.still so.still
    obtain ⟨b2, o2, ix2, l2, cb2, hbv2⟩ := Vj hwH h
    rw [hxa] at cb2
    have cb' : VA (H.f b1) o1 7 = some [.int .i64 j.id, .int .i64 j.prio, .string j.body, .int .i64 j.state, .int .i64 j.tries, .int .i64 j.who, .int .i64 j.til] := cb
    have cb2' : VA (H.f b2) o2 7 = some [.int .i64 j.id, .int .i64 j.prio, .string j.body, .int .i64 j.state, .int .i64 j.tries, .int .i64 j.who, .int .i64 j.til] := cb2
    have c0 : Xw (H.f b1) o1 = some (.int .i64 j.id) := Y6 cb (i := 0) (by decide)
    have qH := q.still so.still
    have mg := qH.gets j.id j (Zx q.i.a.inc hjA)
    obtain ⟨H1, w1, r1, n1, s1, v1, c1⟩ := Own.cellws hi so.own ix (k := 4) (by decide) ⟨j.id, j.prio, j.body, j.state, 77, j.who, j.til⟩ (.int .i64 77) rfl (by rw [hij]; rfl)
    have hset : (o ++ j :: t).set i ⟨j.id, j.prio, j.body, j.state, 77, j.who, j.til⟩ = (o ++ [⟨j.id, j.prio, j.body, j.state, 77, j.who, j.til⟩]) ++ t := by
      rw [List.set_append, if_neg (by omega), show i - o.length = 0 by omega, List.set_cons_zero, List.append_assoc]; rfl
    rw [hset] at r1
    have so1 : SinceE EJb T.api_Job Hl H1 v7 ((o ++ [⟨j.id, j.prio, j.body, j.state, 77, j.who, j.til⟩]) ++ t) := ⟨so.still.then s1 fun b hb h => by have := so.new b1 hbv; omega, r1, so.new⟩
    obtain ⟨H', l', so', fr', e'⟩ := l_alike1 bq bm bk bl A tries last now w v7 v8 i6 Hl q hw hwb t (i + 1) H1 _ hx' (by simp; omega) so1
    have jn : ∀ ox oy, Yh Tryz.prog .neq T.api_Job ox oy (.agg #[.int .i64 j.id, .int .i64 j.prio, .string j.body, .int .i64 j.state, .int .i64 j.tries, .int .i64 j.who, .int .i64 j.til]) (.agg #[.int .i64 j.id, .int .i64 j.prio, .string j.body, .int .i64 j.state, .int .i64 j.tries, .int .i64 j.who, .int .i64 j.til]) = some (.bool false) := fun ox oy => by
      have := job_ne' (ox := ox) (oy := oy) j j
      rw [decide_eq_true rfl] at this
      exact this
    have e1 : ((i : Int) + 1) = ((i + 1 : Nat) : Int) := by omega
    refine ⟨H', l', so', (s1.mono fun c _ h => by rw [h]; exact hbv).trans fr', fun K => ?_⟩
    have e' := e' K
    rw [← e1] at e'
    rw [r_law_alike_1]
    simp (disch := first | with_reducible rfl | assumption | omega | rfl | (simp only [go_sem]; first | done | omega)) only [go_sem, ↓reduceIte, reduceCtorEq, Nat.reduceEqDiff, Nat.reduceAdd, Nat.reduceSub, Nat.reduceMul, Nat.reduceLeDiff, Nat.reduceLT, Int.reduceEq, Int.reduceLT, Int.reduceLE, Int.reduceAdd, Int.reduceSub, Int.reduceNeg, Int.reduceToNat, Int.reduceMul, ↓Qa, hlen, hlt, ix, cb', ix2, cb2', jn, c0, ↓Ya mg, Ya mg, w1]
    exact e'
set_option maxHeartbeats 1000000 in
theorem l_alike0 (bq bm bk bl : Nat) (A : List Jb) (tries last now : Int) (v w : Value) (i6 : Int) (hi6 : i6 < 2) (hi60 : 0 ≤ i6) (H : AHeap) (q : QS H bq bm bk A tries last now) (m : MS H bl A tries last now v) (hw : Rd EJb H w (WC A)) (hwb : ∀ b, Ye w = some b → b < H.n) :
    ∃ H', Yr H H' ∧ Ok H' ∧ ∀ K : K, Xb (.pointer (some ⟨bq, 0, none⟩)) (.pointer (some ⟨bl, 0, none⟩)) w (.int .i64 i6) H K = Xb (.pointer (some ⟨bq, 0, none⟩)) (.pointer (some ⟨bl, 0, none⟩)) w (.int .i64 (i6 + 1)) H' K := by
  have hlA := q.i.len
  obtain ⟨v7, H1, m1, so⟩ := q_QJobs bq bm bk A tries last now H q.ok q.r q.i
  have q1 := q.still so.still
  obtain ⟨bx, H2, m2, g1, g2, g3, g4⟩ := q_QMap bq bm bk A tries last now H1 q1.r q.i
  have s2 := so.still.trans g2
  obtain ⟨bp, H3, m3, p1, p2, p3⟩ := q_pairs bl A q.i.a (by omega) v H2 (q.ok.fr s2) (m.still s2)
  have s3 := s2.trans p2
  have hlm : (Uk A).length ≤ 1000000000000 := by rw [V1]; omega
  have m4 := q_Equal bx bp (Uk A) (Uk A) H3 (g1.still p2) p1 hlm hlm
  have l7 := so.own.rd.lenS
  have lw := (hw.lenS)
  have so3 : SinceE EJb T.api_Job H H3 v7 ([] ++ WC A) := so.to (g2.trans p2)
  obtain ⟨H4, l', so4, fr4, e4⟩ := l_alike1 bq bm bk bl A tries last now w v7 (.pointer (some ⟨bx, 0, none⟩)) i6 H q hw hwb (WC A) 0 H3 [] rfl rfl so3
  have e4 : ∀ K : K, Wz (.pointer (some ⟨bq, 0, none⟩)) (.pointer (some ⟨bl, 0, none⟩)) w (.int .i64 i6) v7 (.pointer (some ⟨bx, 0, none⟩)) (.int .i64 0) H3 (YB [0, 1, 5, 6, 8] 2 K) = K .normal [(0, .pointer (some ⟨bq, 0, none⟩)), (1, .pointer (some ⟨bl, 0, none⟩)), (5, w), (6, .int .i64 i6), (8, .pointer (some ⟨bx, 0, none⟩))] H4 := e4
  have hx3 := g1.still p2
  have hd : ∀ c, MB H3 bx c → ¬ Ye v7 = some c := fun c hc h => by
    have h1 := g4 c (UI g1 p2 hc)
    have h2 := so.own.blk h
    omega
  have hx4 := ZE hx3 fr4 hd
  obtain ⟨H5, m5, _, u5⟩ := q_putM bx (Uk A) ⟨Eng.mk [111, 116, 104, 101, 114], Eng.mk []⟩ H4 (q.ok.fr so4.still) hx4.1 q.i.a.srt (by rw [V1]; omega)
  generalize (putE (Uk A) ⟨Eng.mk [111, 116, 104, 101, 114], Eng.mk []⟩).1 = pe at m5
  have st5 : Yr H H5 := so4.still.then u5.fr fun b hb h => by
    have := g4 b (UI g1 p2 (hx4.2 b h))
    have := so.still.n
    omega
  have hne : ¬ ¬ ((WC A).length : Int) = ((WC A).length : Int) := by simp
  refine ⟨H5, st5, q.ok.fr st5, fun K => ?_⟩
  rw [r_law_alike_0]
  simp (disch := first | with_reducible rfl | assumption | omega | rfl | (simp only [go_sem]; first | done | omega)) only [go_sem, ↓reduceIte, reduceCtorEq, Nat.reduceEqDiff, Nat.reduceAdd, Nat.reduceSub, Nat.reduceMul, Nat.reduceLeDiff, Nat.reduceLT, Int.reduceEq, Int.reduceLT, Int.reduceLE, Int.reduceAdd, Int.reduceSub, Int.reduceNeg, Int.reduceToNat, Int.reduceMul, ↓U5, hi6, ↓Ya m1, Ya m1, ↓Ya m2, Ya m2, l7, lw, ↓Ya m3, Ya m3, ↓Ya m4, Ya m4, e4, ↓Ya m5, Ya m5]
set_option maxHeartbeats 1000000 in
theorem q_alike (bq bm bk bl : Nat) (A : List Jb) (tries last now : Int) (v : Value) (H : AHeap) (q : QS H bq bm bk A tries last now) (m : MS H bl A tries last now v) :
    CC F.law_alike [.pointer (some ⟨bq, 0, none⟩), .pointer (some ⟨bl, 0, none⟩)] H = some (.bool true, H) := by
  have hlA := q.i.len
  have hll := q.i.l
  have m0 := q_QNow bq bm bk A tries last now H q.r
  have f := m.f
  obtain ⟨w, H1, m1, so⟩ := q_sorted bl A (by omega) v H m
  obtain ⟨H2, s2, ok2, e2⟩ := l_alike0 bq bm bk bl A tries last now v w 0 (by decide) (by decide) H1 (q.still so.still) (m.still so.still) so.own.rd fun b hb => so.own.blk hb
  have st2 := so.still.trans s2
  obtain ⟨H3, s3, ok3, e3⟩ := l_alike0 bq bm bk bl A tries last now v w 1 (by decide) (by decide) H2 (q.still st2) (m.still st2) (so.own.rd.still s2) fun b hb => Nat.lt_of_lt_of_le (so.own.blk hb) s2.n
  have st3 := st2.trans s3
  have f3 := (m.still st3).f
  have e3 : ∀ K : K, Xb (.pointer (some ⟨bq, 0, none⟩)) (.pointer (some ⟨bl, 0, none⟩)) w (.int .i64 1) H2 K = Xb (.pointer (some ⟨bq, 0, none⟩)) (.pointer (some ⟨bl, 0, none⟩)) w (.int .i64 2) H3 K := e3
  have e2 : ∀ K : K, Xb (.pointer (some ⟨bq, 0, none⟩)) (.pointer (some ⟨bl, 0, none⟩)) w (.int .i64 0) H1 K = Xb (.pointer (some ⟨bq, 0, none⟩)) (.pointer (some ⟨bl, 0, none⟩)) w (.int .i64 1) H2 K := e2
  have e : ∀ K : K, Xb (.pointer (some ⟨bq, 0, none⟩)) (.pointer (some ⟨bl, 0, none⟩)) w (.int .i64 0) H1 (YB [0, 1] 0 K) = K .normal [(0, .pointer (some ⟨bq, 0, none⟩)), (1, .pointer (some ⟨bl, 0, none⟩))] H3 := fun K => by
    rw [e2, e3, r_law_alike_0]
    simp (disch := first | with_reducible rfl | assumption | omega | rfl | (simp only [go_sem]; first | done | omega)) only [go_sem, ↓reduceIte, reduceCtorEq, Nat.reduceEqDiff, Nat.reduceAdd, Nat.reduceSub, Nat.reduceMul, Nat.reduceLeDiff, Nat.reduceLT, Int.reduceEq, Int.reduceLT, Int.reduceLE, Int.reduceAdd, Int.reduceSub, Int.reduceNeg, Int.reduceToNat, Int.reduceMul, ↓U5]
  have q3 := q.still st3
  have g1 := q3.getsNone (last + 1) (fnd_none_last q.i.a (by omega))
  have h0 : fnd A 0 = none := by
    rcases Qb (A := A) 0 with h | ⟨j, h⟩
    · exact h
    · obtain ⟨h1, h2⟩ := X4 h
      have := (q.i.a.ok j h1).id
      omega
  have g2 := q3.getsNone 0 h0
  refine Yk (H' := H3) ?_ (d_law_alike _ _ H) rfl st3
  simp (disch := first | with_reducible rfl | assumption | omega | rfl | (simp only [go_sem]; first | done | omega)) only [go_sem, ↓reduceIte, reduceCtorEq, Nat.reduceEqDiff, Nat.reduceAdd, Nat.reduceSub, Nat.reduceMul, Nat.reduceLeDiff, Nat.reduceLT, Int.reduceEq, Int.reduceLT, Int.reduceLE, Int.reduceAdd, Int.reduceSub, Int.reduceNeg, Int.reduceToNat, Int.reduceMul, ↓QG, ↓Ya m0, Ya m0, f, ↓Ya m1, Ya m1, e, f3, ↓Ya g1, Ya g1, ↓Ya g2, Ya g2]
end Go.Proofs.YtmiinbhnfojnbaaGreatDoor

set_option maxRecDepth 10000
namespace Go.Proofs.YtmiinbhnfojnbaaGreatDoor
open Go Eng
attribute [local congr] YO YM YI
theorem set_rep {A : List Jb} (hp : A.Pairwise (fun a b => a.id < b.id)) {k : Nat} (hk : k < A.length) {j : Jb} (hj : A[k].id = j.id) : A.set k j = VN A j := by
  unfold VN
  apply List.ext_getElem (by simp)
  intro i h1 h2
  rw [List.getElem_map]
  by_cases h : k = i
  · subst h
    rw [List.getElem_set_self, if_pos hj]
  · have hi : i < A.length := by simpa using h1
    rw [List.getElem_set_ne h, if_neg]
    intro e
    have := Zj hp (List.getElem_mem hi) (List.getElem_mem hk) (e.trans hj.symm)
    have hpw := List.pairwise_iff_getElem.1 hp
    rcases Nat.lt_or_ge k i with h3 | h3
    · have := hpw k i hk hi h3; omega
    · have := hpw i k hi hk (by omega); omega
theorem del_at {A : List Jb} (hp : A.Pairwise (fun a b => a.id < b.id)) {k : Nat} (hk : k < A.length) : A.take k ++ A.drop (k + 1) = delJ A A[k].id := by
  unfold delJ
  induction A generalizing k with
  | nil => simp at hk
  | cons a A ih =>
    obtain ⟨ha, hp'⟩ := List.pairwise_cons.1 hp
    cases k with
    | zero =>
      simp only [List.take_zero, List.nil_append, List.getElem_cons_zero]
      rw [List.filter_cons_of_neg (by simp)]
      show A = _
      symm
      rw [List.filter_eq_self]
      intro x hx
      have := ha x hx
      simp
      omega
    | succ k =>
      have hk' : k < A.length := by simpa using hk
      simp only [List.take_succ_cons, List.drop_succ_cons, List.cons_append, List.getElem_cons_succ]
      rw [List.filter_cons_of_pos, ih hp' hk']
      have := ha _ (List.getElem_mem hk')
      simp
      omega
theorem wait_nil {A : List Jb} {n : Int} (h : AOk A n) (hs : ∀ a l, WC A = a :: l → a.state ≠ 1) : QX A = [] := by
  unfold QX
  have hsj := h.sj
  have hst : ∀ a ∈ WC A, 1 ≤ a.state := fun a ha => (h.ok a (US.1 ha)).state.1
  rw [List.filter_eq_nil_iff]
  intro x hx
  simp only [decide_eq_true_eq]
  cases hl : WC A with
  | nil => rw [hl] at hx; cases hx
  | cons a l =>
    have h1 := hs a l hl
    rw [hl] at hx hsj hst
    have h2 := hst a (by simp)
    rcases List.mem_cons.1 hx with rfl | hx
    · exact h1
    · have := (List.pairwise_cons.1 hsj).1 x hx
      rw [Z1] at this
      omega
theorem wait_head {A : List Jb} {a : Jb} {l : List Jb} (h : WC A = a :: l) (hs : a.state = 1) : ∃ t, QX A = a :: t := by
  unfold QX
  rw [h, List.filter_cons_of_pos (by simpa using hs)]
  exact ⟨_, rfl⟩
structure PS (H0 H : AHeap) (bq bm bk bl : Nat) (v : Value) (tries : Int) (A : List Jb) (last now : Int) (B : List Jb) (last2 now2 : Int) : Prop where
  q : QS H bq bm bk A tries last now
  m : MS H bl B tries last2 now2 v
  dis : ∀ c, QB H bq bm bk c → ¬ LB bl v c
  st : Yr H0 H
  nq : ∀ c, QB H bq bm bk c → H0.n ≤ c
  nl : ∀ c, LB bl v c → H0.n ≤ c
section
variable {H0 H H' : AHeap} {bq bm bk bl : Nat} {v v' : Value} {tries last now last2 now2 last' now' : Int} {A B A' B' : List Jb}
theorem PS.still (p : PS H0 H bq bm bk bl v tries A last now B last2 now2) (s : Yr H H') : PS H0 H' bq bm bk bl v tries A last now B last2 now2 :=
  ⟨p.q.still s, p.m.still s, fun c h => p.dis c (h.still p.q.r.mdl s), p.st.trans s, fun c h => p.nq c (h.still p.q.r.mdl s), p.nl⟩
theorem PS.queue (p : PS H0 H bq bm bk bl v tries A last now B last2 now2) (u : UpQ H bq bm bk H') (q' : QS H' bq bm bk A' tries last' now') : PS H0 H' bq bm bk bl v tries A' last' now' B last2 now2 := by
  have hq : ∀ c, QB H' bq bm bk c → QB H bq bm bk c ∨ H.n ≤ c := fun c h => by
    rcases h with h | h | h
    · exact .inl (.inl h)
    · exact .inl (.inr (.inl h))
    · exact (u.mb c h).imp (fun h => .inr (.inr h)) id
  refine ⟨q', p.m.keep u.fr fun c h1 h2 => p.dis c h2 h1, fun c h1 h2 => ?_, p.st.then u.fr fun b hb h => by have := p.nq b h; omega, fun c h => ?_, p.nl⟩
  · rcases hq c h1 with h | h
    · exact p.dis c h h2
    · have := p.m.blk h2; omega
  · rcases hq c h with h | h
    · exact p.nq c h
    · exact Nat.le_trans p.st.n h
theorem PS.law (p : PS H0 H bq bm bk bl v tries A last now B last2 now2) {S : Nat → Prop} (f : Fr S H H') (hS : ∀ c, S c → LB bl v c ∨ H.n ≤ c) (m' : MS H' bl B' tries last' now' v') (hn : ∀ c, LB bl v' c → LB bl v c ∨ H.n ≤ c) : PS H0 H' bq bm bk bl v' tries A last now B' last' now' := by
  have hd : ∀ c, QB H bq bm bk c → ¬ S c := fun c h1 h2 => by
    rcases hS c h2 with h | h
    · exact p.dis c h1 h
    · have := p.q.r.blk h1; omega
  have hm := ZE p.q.r.mdl f fun c hc => hd c (.inr (.inr hc))
  have hq : ∀ c, QB H' bq bm bk c → QB H bq bm bk c := fun c h => h.imp id fun h => h.imp id (hm.2 c)
  refine ⟨⟨p.q.ok.fr f, p.q.r.keep f hd, p.q.i⟩, m', fun c h1 h2 => ?_, p.st.then f fun b hb h => ?_, fun c h => p.nq c (hq c h), fun c h => ?_⟩
  · rcases hn c h2 with h | h
    · exact p.dis c (hq c h1) h
    · have := p.q.r.blk (hq c h1); omega
  · rcases hS b h with h | h
    · have := p.nl b h; omega
    · have := p.st.n; omega
  · rcases hn c h with h | h
    · exact p.nl c h
    · exact Nat.le_trans p.st.n h
end
theorem okV_st {a a' b b' : AHeap} {go : Option Bool} {k : Nat} (s : Yr a a') (hk : k < a.n) (hb : a.n ≤ b.n) : okV go (some k) a a' b b' = true := Qy (.inr (s.ver hk fun h => h)) (.inl hb)
theorem d_Clone {bk : Nat} {ents : List (Value × Value)} {H : AHeap} (h : H.f bk = .map ents) : CC F.maps_Clone_string [.map (some bk)] H = some (.map (some H.n), H.push (.map ents)) :=
  D_prim (show prims1 F.maps_Clone_string = some ZI by kernel_rfl) (by unfold ZI; simp only [h])
set_option maxHeartbeats 1000000 in
theorem QS.copy {H : AHeap} {bq bm bk : Nat} {A : List Jb} {tries last now : Int} (q : QS H bq bm bk A tries last now) :
    ∃ bq' bm' bk' H', CC F.jobs_Queue_Copy [.pointer (some ⟨bq, 0, none⟩)] H = some (.pointer (some ⟨bq', 0, none⟩), H') ∧ QS H' bq' bm' bk' A tries last now ∧ Yr H H' ∧ (∀ c, QB H' bq' bm' bk' c → H.n ≤ c) := by
  have m0 := q.r.q_none
  have fq := q.r.f
  unfold V8 at fq
  obtain ⟨bm', H1, m1, g1, g2, g3, g4⟩ := q_MCopy bm (Uk A) H q.r.mdl (by rw [V1]; have := q.i.len; omega)
  obtain ⟨ents, es, e1, e2, e3⟩ := q.r.keys.keep g2 q.r.klt fun h => h
  have mc := d_Clone e1
  obtain ⟨H2, hH2⟩ : ∃ H2, H1.push (.map ents) = H2 := ⟨_, rfl⟩
  rw [hH2] at mc
  obtain ⟨s2, n2, f2⟩ := Yu hH2
  obtain ⟨H3, hH3⟩ : ∃ H3, H2.push (.cells [.pointer (some ⟨bm', 0, none⟩), .map (some H1.n), .int .i64 tries, .int .i64 last, .int .i64 now] T.jobs_Queue true) = H3 := ⟨_, rfl⟩
  obtain ⟨s3, n3, f3⟩ := Yu hH3
  have fq1 : H1.f bq = .cells [.pointer (some ⟨bm, 0, none⟩), .map (some bk), .int .i64 tries, .int .i64 last, .int .i64 now] T.jobs_Queue true := by rw [g2.f q.r.lt fun h => h]; exact fq
  have fq2 : H2.f bq = .cells [.pointer (some ⟨bm, 0, none⟩), .map (some bk), .int .i64 tries, .int .i64 last, .int .i64 now] T.jobs_Queue true := by rw [(g2.trans s2).f q.r.lt fun h => h]; exact fq
  have hbq := q.r.lt
  have n1 := g2.n
  have ck1 : ∀ (go : Option Bool) (b b' : AHeap), H.n ≤ b.n → okV go (some bq) H H1 b b' = true := fun go b b' h => okV_st g2 hbq h
  have ck2 : ∀ (go : Option Bool) (b b' : AHeap), H1.n ≤ b.n → okV go (some bq) H1 H2 b b' = true := fun go b b' h => okV_st s2 (by omega) h
  have hm3 : Mdl H3 bm' (Uk A) := g1.still (s2.trans s3)
  have hMB : ∀ c, MB H3 bm' c → H.n ≤ c ∧ c < H1.n := fun c hc => by
    have := UI g1 (s2.trans s3) hc
    exact ⟨g4 c this, g1.blk this⟩
  refine ⟨H2.n, bm', H1.n, H3, (d_jobs_Queue_Copy _ H (r := (.pointer (some ⟨H2.n, 0, none⟩), H3)) ?_).trans (congrArg some (YP rfl)), ⟨q.ok.fr ((g2.trans s2).trans s3), ⟨f3, by omega, by omega, hm3, ⟨ents, es, by rw [s3.f (by omega) fun h => h]; exact f2, e2, e3⟩, fun h => ?_, fun h => ?_, by omega⟩, q.i⟩, (g2.trans s2).trans s3, fun c hc => ?_⟩
  · simp (disch := first | with_reducible rfl | assumption | omega | rfl | (simp only [go_sem]; first | done | omega)) only [go_sem, ↓reduceIte, reduceCtorEq, Nat.reduceEqDiff, Nat.reduceAdd, Nat.reduceSub, Nat.reduceMul, Nat.reduceLeDiff, Nat.reduceLT, Int.reduceEq, Int.reduceLT, Int.reduceLE, Int.reduceAdd, Int.reduceSub, Int.reduceNeg, Int.reduceToNat, Int.reduceMul, ↓W0, ↓Ya m0, Ya m0, fq, ↓Ya m1, Ya m1, fq1, ↓Ya mc, Ya mc, fq2, hH3, ck1, ck2]
  · have := (hMB _ h).2; omega
  · have := (hMB _ h).2; omega
  · rcases hc with h | h | h
    · omega
    · omega
    · exact (hMB c h).1
end Go.Proofs.YtmiinbhnfojnbaaGreatDoor

set_option maxRecDepth 10000
namespace Go.Proofs.YtmiinbhnfojnbaaGreatDoor
open Go Eng
attribute [local congr] YO YM YI
theorem okV_v {a a' b b' : AHeap} {go : Option Bool} {k : Nat} (hv : a'.ver k = a.ver k) (h : a.n ≤ b.n ∨ b'.n ≤ b.n) : okV go (some k) a a' b b' = true := Qy (.inr hv) h
def Did (H0 : AHeap) (bl : Nat) (tries last : Int) (r : Res) : Prop :=
  ∃ H' bq bm bk v A last' now', r = some (.tuple #[.pointer (some ⟨bq, 0, none⟩), .bool true], H') ∧ PS H0 H' bq bm bk bl v tries A last' now' A last' now' ∧ last' ≤ last + 1
section
variable {H0 H : AHeap} {bq bm bk bl : Nat} {v : Value} {tries last now : Int} {A : List Jb}
theorem does_put_bad (a : Act) (p : PS H0 H bq bm bk bl v tries A last now A last now) (hw : a.what = 0) (h : U6 a.n a.body ≠ 0) : Did H0 bl tries last (CC F.law_does [.pointer (some ⟨bq, 0, none⟩), .pointer (some ⟨bl, 0, none⟩), .agg #[.int .i64 a.what, .int .i64 a.who, .int .i64 a.n, .string a.body]] H) := by
  obtain ⟨H1, hH1⟩ : ∃ H1, H.push (.cells [.int .i64 a.what, .int .i64 a.who, .int .i64 a.n, .string a.body] T.law_Act true) = H1 := ⟨_, rfl⟩
  obtain ⟨s1, n1, f1⟩ := Yu hH1
  have p1 := p.still s1
  have mq := p1.q.putsBad a.n a.body h
  refine ⟨H1, bq, bm, bk, v, A, last, now, (XM _ _ _ H (r := (.tuple #[.pointer (some ⟨bq, 0, none⟩), .bool true], H1)) ?_).trans (congrArg some (YP rfl)), p1, by omega⟩
  unfold U6 at h mq
  by_cases h1 : a.n < 0
  · rw [if_pos (.inl h1)] at mq
    simp (disch := first | with_reducible rfl | assumption | omega | rfl | (simp only [go_sem]; first | done | omega)) only [go_sem, ↓reduceIte, reduceCtorEq, Nat.reduceEqDiff, Nat.reduceAdd, Nat.reduceSub, Nat.reduceMul, Nat.reduceLeDiff, Nat.reduceLT, Int.reduceEq, Int.reduceLT, Int.reduceLE, Int.reduceAdd, Int.reduceSub, Int.reduceNeg, Int.reduceToNat, Int.reduceMul, ↓YJ, hH1, f1, eq_true hw, h1, ↓Ya mq, Ya mq]
  by_cases h2 : 9 < a.n
  · rw [if_pos (.inr h2)] at mq
    simp (disch := first | with_reducible rfl | assumption | omega | rfl | (simp only [go_sem]; first | done | omega)) only [go_sem, ↓reduceIte, reduceCtorEq, Nat.reduceEqDiff, Nat.reduceAdd, Nat.reduceSub, Nat.reduceMul, Nat.reduceLeDiff, Nat.reduceLT, Int.reduceEq, Int.reduceLT, Int.reduceLE, Int.reduceAdd, Int.reduceSub, Int.reduceNeg, Int.reduceToNat, Int.reduceMul, ↓YJ, hH1, f1, eq_true hw, h1, h2, ↓Ya mq, Ya mq]
  by_cases h3 : 15 < (Eng.bl a.body).length
  · have h3' : (15 : Int) < ((Eng.bl a.body).length : Int) := by omega
    rw [if_neg (by omega), if_pos h3] at mq
    simp (disch := first | with_reducible rfl | assumption | omega | rfl | (simp only [go_sem]; first | done | omega)) only [go_sem, ↓reduceIte, reduceCtorEq, Nat.reduceEqDiff, Nat.reduceAdd, Nat.reduceSub, Nat.reduceMul, Nat.reduceLeDiff, Nat.reduceLT, Int.reduceEq, Int.reduceLT, Int.reduceLE, Int.reduceAdd, Int.reduceSub, Int.reduceNeg, Int.reduceToNat, Int.reduceMul, ↓YJ, hH1, f1, eq_true hw, h1, h2, h3', ↓Ya mq, Ya mq]
  · rw [if_neg (by omega), if_neg h3] at h
    exact absurd rfl h
set_option maxHeartbeats 2000000 in
theorem does_put (a : Act) (p : PS H0 H bq bm bk bl v tries A last now A last now) (hl : last < 900) (hw : a.what = 0) (h : U6 a.n a.body = 0) : Did H0 bl tries last (CC F.law_does [.pointer (some ⟨bq, 0, none⟩), .pointer (some ⟨bl, 0, none⟩), .agg #[.int .i64 a.what, .int .i64 a.who, .int .i64 a.n, .string a.body]] H) := by
  have hb : ¬ (a.n < 0 ∨ 9 < a.n) := fun c => by unfold U6 at h; rw [if_pos c] at h; cases h
  have h3 : ¬ 15 < (Eng.bl a.body).length := fun c => by unfold U6 at h; rw [if_neg hb, if_pos c] at h; cases h
  have h1 : ¬ a.n < 0 := by omega
  have h2 : ¬ 9 < a.n := by omega
  have h3' : ¬ (15 : Int) < ((Eng.bl a.body).length : Int) := by omega
  have hll := p.q.i.l
  have hAl := p.q.i.len
  obtain ⟨H1, hH1⟩ : ∃ H1, H.push (.cells [.int .i64 a.what, .int .i64 a.who, .int .i64 a.n, .string a.body] T.law_Act true) = H1 := ⟨_, rfl⟩
  obtain ⟨s1, n1, f1⟩ := Yu hH1
  have p1 := p.still s1
  have g1 := p1.m.f
  have hbl := p.m.lt
  obtain ⟨H2, hH2⟩ : ∃ H2, H1.set bl (.cells [v, .int .i64 tries, .int .i64 (last + 1), .int .i64 now] T.law_Model true) = H2 := ⟨_, rfl⟩
  obtain ⟨s2, n2, g2, _⟩ := YH hH2
  have o2 : Own EJb H2 T.api_Job v A := p1.m.own.keep s2 fun c hc h => p1.m.nb (h ▸ hc)
  obtain ⟨v3, H3, a3, so3⟩ := (SinceE.nil (E := EJb) (e := T.api_Job) (H := H2)).app A (sz := 7) (bytes := 64) rfl (by decide) (o2.rd.src rfl) (by simp; omega)
  have a3 : Eng.app T.api_Job 7 64 (.slice none 0 0) (Wi 7 v H2) H2 = some (v3, H3) := a3
  rw [List.nil_append] at so3
  have g3 : H3.f bl = .cells [v, .int .i64 tries, .int .i64 (last + 1), .int .i64 now] T.law_Model true := by rw [so3.still.f (by omega) fun h => h]; exact g2
  have t3 : H3.f H.n = .cells [.int .i64 a.what, .int .i64 a.who, .int .i64 a.n, .string a.body] T.law_Act true := by rw [so3.still.f (by omega) fun h => h, s2.f (by omega) (by omega)]; exact f1
  obtain ⟨j, hj⟩ : ∃ j, newJ (last + 1) a.n a.body = j := ⟨_, rfl⟩
  obtain ⟨H4, hH4⟩ : ∃ H4, H3.push (.cells (EJb.cells [newJ (last + 1) a.n a.body]) T.api_Job true) = H4 := ⟨_, rfl⟩
  obtain ⟨s4, n4, f4⟩ := Yu hH4
  obtain ⟨v5, H5, a5, so5⟩ := so3.lit [newJ (last + 1) a.n a.body] (sz := 7) (bytes := 64) rfl (by decide) hH4 (by simp; omega)
  have hH4 : H3.push (.cells [.int .i64 (last + 1), .int .i64 a.n, .string a.body, .int .i64 1, .int .i64 0, .int .i64 0, .int .i64 0] T.api_Job true) = H4 := hH4
  have a5 : Eng.app T.api_Job 7 64 v3 (Wi 7 (.slice (some ⟨H3.n, 0, none⟩) 1 2) H4) H4 = some (v5, H5) := a5
  have n5 := so5.still.n
  have s25 := so5.still
  have g5 : H5.f bl = .cells [v, .int .i64 tries, .int .i64 (last + 1), .int .i64 now] T.law_Model true := by rw [s25.f (by omega) fun h => h]; exact g2
  obtain ⟨H6, hH6⟩ : ∃ H6, H5.set bl (.cells [v5, .int .i64 tries, .int .i64 (last + 1), .int .i64 now] T.law_Model true) = H6 := ⟨_, rfl⟩
  obtain ⟨s6, n6, g6, _⟩ := YH hH6
  have t6 : H6.f H.n = .cells [.int .i64 a.what, .int .i64 a.who, .int .i64 a.n, .string a.body] T.law_Act true := by rw [s6.f (by omega) (by omega), s25.f (by omega) fun h => h, s2.f (by omega) (by omega)]; exact f1
  have hv5 : Eng.one v5 = true := so5.own.cell
  have f16 : Fr (fun c => c = bl) H1 H6 := (s2.trans s25.still).trans s6
  have hnb : ∀ c, Ye v5 = some c → H2.n ≤ c := so5.new
  have m6 : MS H6 bl (A ++ [newJ (last + 1) a.n a.body]) tries (last + 1) now v5 := ⟨g6, by omega, so5.own.keep s6 fun c hc h => by have := hnb c hc; omega, fun h => by have := hnb _ h; omega⟩
  have p6 := p1.law f16 (fun c h => .inl (.inl h)) m6 fun c h => by
    rcases h with h | h
    · exact .inl (.inl h)
    · have := hnb c h; right; omega
  obtain ⟨H7, m7, q7, u7⟩ := p6.q.puts hl a.n a.body h
  have p7 := p6.queue u7 q7
  have s23 := so3.still
  have s45 : Yr H2 H5 := s25
  have v23 : ∀ k, k < H2.n → H3.ver k = H2.ver k := fun k hk => s23.ver hk fun h => h
  have ckA : ∀ (go : Option Bool) (b b' : AHeap), (H2.n ≤ b.n ∨ b'.n ≤ b.n) → okV go (some bl) H2 H3 b b' = true := fun go b b' h => okV_v (v23 bl (by omega)) h
  have ckB : ∀ (go : Option Bool) (b b' : AHeap), (H2.n ≤ b.n ∨ b'.n ≤ b.n) → okV go (some H.n) H2 H3 b b' = true := fun go b b' h => okV_v (v23 H.n (by omega)) h
  have ckC : ∀ (go : Option Bool) (b b' : AHeap), (H5.n ≤ b.n ∨ b'.n ≤ b.n) → okV go (some H.n) H5 H6 b b' = true := fun go b b' h => okV_v (s6.ver (by omega) (by omega)) h
  have n3 := so3.still.n
  refine ⟨H7, bq, bm, bk, v5, A ++ [newJ (last + 1) a.n a.body], last + 1, now, (XM _ _ _ H (r := (.tuple #[.pointer (some ⟨bq, 0, none⟩), .bool true], H7)) ?_).trans (congrArg some (YP rfl)), p7, by omega⟩
  simp (maxSteps := 2000000) (disch := first | with_reducible rfl | assumption | omega | rfl | (simp only [go_sem]; first | done | omega)) only [go_sem, ↓reduceIte, reduceCtorEq, Nat.reduceEqDiff, Nat.reduceAdd, Nat.reduceSub, Nat.reduceMul, Nat.reduceLeDiff, Nat.reduceLT, Int.reduceEq, Int.reduceLT, Int.reduceLE, Int.reduceAdd, Int.reduceSub, Int.reduceNeg, Int.reduceToNat, Int.reduceMul, YJ, hH1, f1, eq_true hw, h1, h2, h3', g1, hH2, g2, a3, g3, t3, hH4, a5, g5, hH6, t6, g6, ↓Ya m7, Ya m7, ckA, ckB, ckC]
end
end Go.Proofs.YtmiinbhnfojnbaaGreatDoor

set_option maxRecDepth 10000
namespace Go.Proofs.YtmiinbhnfojnbaaGreatDoor
open Go Eng
attribute [local congr] YO YM YI
section
variable {H0 H : AHeap} {bq bm bk bl : Nat} {v : Value} {tries last now : Int} {A : List Jb}
theorem own_bad {who id : Int} (hl : A.length ≤ 1000) (m : MS H bl A tries last now v) (h : Y7 A who id ≠ 0) : CC F.law_Model_own [.pointer (some ⟨bl, 0, none⟩), .int .i64 who, .int .i64 id] H = some (.tuple #[.int .i64 0, .int .i64 (Y7 A who id)], H) := by
  have := q_own bl A hl v who id H m
  rw [if_neg h] at this
  exact this
theorem own_good {who id : Int} (hl : A.length ≤ 1000) (m : MS H bl A tries last now v) (h : Y7 A who id = 0) :
    ∃ k j, ∃ hk : k < A.length, fnd A id = some j ∧ A[k] = j ∧ j.id = id ∧ CC F.law_Model_own [.pointer (some ⟨bl, 0, none⟩), .int .i64 who, .int .i64 id] H = some (.tuple #[.int .i64 (k : Int), .int .i64 0], H) := by
  have := q_own bl A hl v who id H m
  obtain ⟨j, hf, _⟩ := takenE_ok h
  obtain ⟨k, hk, hi, hj, _⟩ := Z7 (i := 0) hf
  rw [if_pos h, h, hi, Nat.zero_add] at this
  exact ⟨k, j, hk, hf, by rw [List.getElem?_eq_getElem hk] at hj; exact Option.some.inj hj, (X4 hf).2, this⟩
theorem does_finish_bad (a : Act) (p : PS H0 H bq bm bk bl v tries A last now A last now) (hw : a.what = 2) (h : Y7 A a.who a.n ≠ 0) : Did H0 bl tries last (CC F.law_does [.pointer (some ⟨bq, 0, none⟩), .pointer (some ⟨bl, 0, none⟩), .agg #[.int .i64 a.what, .int .i64 a.who, .int .i64 a.n, .string a.body]] H) := by
  have w0 : ¬ a.what = 0 := by omega
  have w1 : ¬ a.what = 1 := by omega
  have hAl := p.q.i.len
  obtain ⟨H1, hH1⟩ : ∃ H1, H.push (.cells [.int .i64 a.what, .int .i64 a.who, .int .i64 a.n, .string a.body] T.law_Act true) = H1 := ⟨_, rfl⟩
  obtain ⟨s1, n1, f1⟩ := Yu hH1
  have p1 := p.still s1
  have mo := own_bad (by omega) p1.m h
  have mq := p1.q.finishBad a.who a.n h
  generalize Y7 A a.who a.n = e at h mo mq
  refine ⟨H1, bq, bm, bk, v, A, last, now, (XM _ _ _ H (r := (.tuple #[.pointer (some ⟨bq, 0, none⟩), .bool true], H1)) ?_).trans (congrArg some (YP rfl)), p1, by omega⟩
  simp (maxSteps := 2000000) (disch := first | with_reducible rfl | assumption | omega | rfl | (simp only [go_sem]; first | done | omega)) only [go_sem, ↓reduceIte, reduceCtorEq, Nat.reduceEqDiff, Nat.reduceAdd, Nat.reduceSub, Nat.reduceMul, Nat.reduceLeDiff, Nat.reduceLT, Int.reduceEq, Int.reduceLT, Int.reduceLE, Int.reduceAdd, Int.reduceSub, Int.reduceNeg, Int.reduceToNat, Int.reduceMul, YJ, hH1, f1, w0, w1, eq_true hw, ↓Ya mo, Ya mo, h, ↓Ya mq, Ya mq, eq_self, decide_true]
theorem does_back_bad (a : Act) (p : PS H0 H bq bm bk bl v tries A last now A last now) (hw : a.what = 3) (h : Y7 A a.who a.n ≠ 0) : Did H0 bl tries last (CC F.law_does [.pointer (some ⟨bq, 0, none⟩), .pointer (some ⟨bl, 0, none⟩), .agg #[.int .i64 a.what, .int .i64 a.who, .int .i64 a.n, .string a.body]] H) := by
  have w0 : ¬ a.what = 0 := by omega
  have w1 : ¬ a.what = 1 := by omega
  have w2 : ¬ a.what = 2 := by omega
  have hAl := p.q.i.len
  obtain ⟨H1, hH1⟩ : ∃ H1, H.push (.cells [.int .i64 a.what, .int .i64 a.who, .int .i64 a.n, .string a.body] T.law_Act true) = H1 := ⟨_, rfl⟩
  obtain ⟨s1, n1, f1⟩ := Yu hH1
  have p1 := p.still s1
  have mo := own_bad (by omega) p1.m h
  have mq := p1.q.backBad a.who a.n h
  generalize Y7 A a.who a.n = e at h mo mq
  refine ⟨H1, bq, bm, bk, v, A, last, now, (XM _ _ _ H (r := (.tuple #[.pointer (some ⟨bq, 0, none⟩), .bool true], H1)) ?_).trans (congrArg some (YP rfl)), p1, by omega⟩
  simp (maxSteps := 2000000) (disch := first | with_reducible rfl | assumption | omega | rfl | (simp only [go_sem]; first | done | omega)) only [go_sem, ↓reduceIte, reduceCtorEq, Nat.reduceEqDiff, Nat.reduceAdd, Nat.reduceSub, Nat.reduceMul, Nat.reduceLeDiff, Nat.reduceLT, Int.reduceEq, Int.reduceLT, Int.reduceLE, Int.reduceAdd, Int.reduceSub, Int.reduceNeg, Int.reduceToNat, Int.reduceMul, YJ, hH1, f1, w0, w1, w2, eq_true hw, ↓Ya mo, Ya mo, h, ↓Ya mq, Ya mq, eq_self, decide_true]
set_option maxHeartbeats 2000000 in
theorem does_finish (a : Act) (p : PS H0 H bq bm bk bl v tries A last now A last now) (hw : a.what = 2) (h : Y7 A a.who a.n = 0) : Did H0 bl tries last (CC F.law_does [.pointer (some ⟨bq, 0, none⟩), .pointer (some ⟨bl, 0, none⟩), .agg #[.int .i64 a.what, .int .i64 a.who, .int .i64 a.n, .string a.body]] H) := by
  have w0 : ¬ a.what = 0 := by omega
  have w1 : ¬ a.what = 1 := by omega
  have hAl := p.q.i.len
  obtain ⟨H1, hH1⟩ : ∃ H1, H.push (.cells [.int .i64 a.what, .int .i64 a.who, .int .i64 a.n, .string a.body] T.law_Act true) = H1 := ⟨_, rfl⟩
  obtain ⟨s1, n1, f1⟩ := Yu hH1
  have p1 := p.still s1
  have hbl := p.m.lt
  have g1 := p1.m.f
  obtain ⟨k, j, hk, hf, hj, hid, mo⟩ := own_good (by omega) p1.m h
  obtain ⟨x1, c1, c2⟩ := p1.m.own.hi (sz := 7) rfl (i := k) (by omega) (q := .i64)
  obtain ⟨v2, H2, a2, so2⟩ := (SinceE.nil (E := EJb) (e := T.api_Job) (H := H1)).app (A.take k) (sz := 7) (bytes := 64) rfl (by decide) (c2.src rfl) (by simp; omega)
  have a2 : Eng.app T.api_Job 7 64 (.slice none 0 0) (Wi 7 x1 H1) H1 = some (v2, H2) := a2
  rw [List.nil_append] at so2
  have s2 := so2.still
  have n2 := s2.n
  have g2 : H2.f bl = .cells [v, .int .i64 tries, .int .i64 last, .int .i64 now] T.law_Model true := by rw [s2.f (by omega) fun h => h]; exact g1
  obtain ⟨x2, d1, d2, _⟩ := (p1.m.own.still s2).drop (sz := 7) rfl (i := k + 1) (by omega) (q := .i64)
  have d1 : slS T.api_Job 7 v (some (.int .i64 ((k : Int) + 1))) none none H2 = some x2 := d1
  obtain ⟨v3, H3, a3, so3⟩ := so2.app (A.drop (k + 1)) (sz := 7) (bytes := 64) rfl (by decide) (d2.rd.src rfl) (by simp; omega)
  have a3 : Eng.app T.api_Job 7 64 v2 (Wi 7 x2 H2) H2 = some (v3, H3) := a3
  rw [del_at p.q.i.a.inc hk, hj, hid] at so3
  have s3 := so3.still
  have n3 := s3.n
  have g3 : H3.f bl = .cells [v, .int .i64 tries, .int .i64 last, .int .i64 now] T.law_Model true := by rw [s3.f (by omega) fun h => h]; exact g1
  obtain ⟨H4, hH4⟩ : ∃ H4, H3.set bl (.cells [v3, .int .i64 tries, .int .i64 last, .int .i64 now] T.law_Model true) = H4 := ⟨_, rfl⟩
  obtain ⟨s4, n4, g4, _⟩ := YH hH4
  have t4 : H4.f H.n = .cells [.int .i64 a.what, .int .i64 a.who, .int .i64 a.n, .string a.body] T.law_Act true := by rw [s4.f (by omega) (by omega), s3.f (by omega) fun h => h]; exact f1
  have hv3 : Eng.one v3 = true := so3.own.cell
  have hnb : ∀ c, Ye v3 = some c → H1.n ≤ c := so3.new
  have m4 : MS H4 bl (delJ A a.n) tries last now v3 := ⟨g4, by omega, so3.own.keep s4 fun c hc h => by have := hnb c hc; omega, fun h => by have := hnb _ h; omega⟩
  have p4 := p1.law (s3.still.trans s4) (fun c h => .inl (.inl h)) m4 fun c h => by
    rcases h with h | h
    · exact .inl (.inl h)
    · exact .inr (hnb c h)
  obtain ⟨H5, m5, q5, u5⟩ := p4.q.finish a.who a.n h
  have p5 := p4.queue u5 q5
  have ckA : ∀ (go : Option Bool) (b b' : AHeap), (H1.n ≤ b.n ∨ b'.n ≤ b.n) → okV go (some bl) H1 H2 b b' = true := fun go b b' h => okV_v (s2.ver (by omega) fun h => h) h
  have ckV : okV (some true) (Ye v) H1 H2 H2 H2 = true := by
    cases hb : Ye v with
    | none => exact okV_none (.inr (Nat.le_refl _))
    | some k => exact okV_v (s2.ver (p1.m.own.blk hb) fun h => h) (.inr (Nat.le_refl _))
  simp only [Ye] at ckV
  refine ⟨H5, bq, bm, bk, v3, delJ A a.n, last, now, (XM _ _ _ H (r := (.tuple #[.pointer (some ⟨bq, 0, none⟩), .bool true], H5)) ?_).trans (congrArg some (YP rfl)), p5, by omega⟩
  simp (maxSteps := 2000000) (disch := first | with_reducible rfl | assumption | omega | rfl | (simp only [go_sem]; first | done | omega)) only [go_sem, ↓reduceIte, reduceCtorEq, Nat.reduceEqDiff, Nat.reduceAdd, Nat.reduceSub, Nat.reduceMul, Nat.reduceLeDiff, Nat.reduceLT, Int.reduceEq, Int.reduceLT, Int.reduceLE, Int.reduceAdd, Int.reduceSub, Int.reduceNeg, Int.reduceToNat, Int.reduceMul, YJ, hH1, f1, w0, w1, eq_true hw, ↓Ya mo, Ya mo, g1, c1, a2, g2, d1, a3, g3, hH4, t4, ↓Ya m5, Ya m5, ckA, ckV, eq_self, decide_true]
set_option maxHeartbeats 2000000 in
theorem does_back (a : Act) (p : PS H0 H bq bm bk bl v tries A last now A last now) (hw : a.what = 3) (h : Y7 A a.who a.n = 0) : Did H0 bl tries last (CC F.law_does [.pointer (some ⟨bq, 0, none⟩), .pointer (some ⟨bl, 0, none⟩), .agg #[.int .i64 a.what, .int .i64 a.who, .int .i64 a.n, .string a.body]] H) := by
  have w0 : ¬ a.what = 0 := by omega
  have w1 : ¬ a.what = 1 := by omega
  have w2 : ¬ a.what = 2 := by omega
  have hAl := p.q.i.len
  obtain ⟨H1, hH1⟩ : ∃ H1, H.push (.cells [.int .i64 a.what, .int .i64 a.who, .int .i64 a.n, .string a.body] T.law_Act true) = H1 := ⟨_, rfl⟩
  obtain ⟨s1, n1, f1⟩ := Yu hH1
  have p1 := p.still s1
  obtain ⟨k, j, hk, hf, hj, hid, mo⟩ := own_good (by omega) p1.m h
  obtain ⟨H2, m2, r2, f2⟩ := q_lback bl A v k hk H1 p1.q.ok p1.m
  rw [hj, set_rep p.q.i.a.inc hk (j := XK tries j) (by rw [hj]; rfl)] at r2
  have t2 : H2.f H.n = .cells [.int .i64 a.what, .int .i64 a.who, .int .i64 a.n, .string a.body] T.law_Act true := by rw [f2.f (by omega) fun h => by have := p.m.blk h; omega]; exact f1
  have p2 := p1.law f2 (fun c h => .inl h) r2 fun c h => .inl h
  obtain ⟨H3, m3, q3, u3⟩ := p2.q.back a.who a.n j h hf
  have p3 := p2.queue u3 q3
  refine ⟨H3, bq, bm, bk, v, VN A (XK tries j), last, now, (XM _ _ _ H (r := (.tuple #[.pointer (some ⟨bq, 0, none⟩), .bool true], H3)) ?_).trans (congrArg some (YP rfl)), p3, by omega⟩
  simp (maxSteps := 2000000) (disch := first | with_reducible rfl | assumption | omega | rfl | (simp only [go_sem]; first | done | omega)) only [go_sem, ↓reduceIte, reduceCtorEq, Nat.reduceEqDiff, Nat.reduceAdd, Nat.reduceSub, Nat.reduceMul, Nat.reduceLeDiff, Nat.reduceLT, Int.reduceEq, Int.reduceLT, Int.reduceLE, Int.reduceAdd, Int.reduceSub, Int.reduceNeg, Int.reduceToNat, Int.reduceMul, YJ, hH1, f1, w0, w1, w2, eq_true hw, ↓Ya mo, Ya mo, ↓Ya m2, Ya m2, t2, ↓Ya m3, Ya m3, eq_self, decide_true]
theorem does_revive_bad (a : Act) (p : PS H0 H bq bm bk bl v tries A last now A last now) (hw : a.what = 4) (h : QZ A a.n ≠ 0) : Did H0 bl tries last (CC F.law_does [.pointer (some ⟨bq, 0, none⟩), .pointer (some ⟨bl, 0, none⟩), .agg #[.int .i64 a.what, .int .i64 a.who, .int .i64 a.n, .string a.body]] H) := by
  have w0 : ¬ a.what = 0 := by omega
  have w1 : ¬ a.what = 1 := by omega
  have w2 : ¬ a.what = 2 := by omega
  have w3 : ¬ a.what = 3 := by omega
  have hAl := p.q.i.len
  obtain ⟨H1, hH1⟩ : ∃ H1, H.push (.cells [.int .i64 a.what, .int .i64 a.who, .int .i64 a.n, .string a.body] T.law_Act true) = H1 := ⟨_, rfl⟩
  obtain ⟨s1, n1, f1⟩ := Yu hH1
  have p1 := p.still s1
  have g1 := p1.m.f
  have mf := q_find bl A (by omega) v a.n H1 p1.m
  have mq := q_QRevive_bad bq bm bk A tries last now a.n H1 p1.q.ok p1.q.r p1.q.i h
  refine ⟨H1, bq, bm, bk, v, A, last, now, (XM _ _ _ H (r := (.tuple #[.pointer (some ⟨bq, 0, none⟩), .bool true], H1)) ?_).trans (congrArg some (YP rfl)), p1, by omega⟩
  unfold QZ at h mq
  rcases Qb (A := A) a.n with hf | ⟨j, hf⟩
  · rw [idx_none hf] at mf
    rw [hf] at mq
    dsimp only at mq
    simp (maxSteps := 2000000) (disch := first | with_reducible rfl | assumption | omega | rfl | (simp only [go_sem]; first | done | omega)) only [go_sem, ↓reduceIte, reduceCtorEq, Nat.reduceEqDiff, Nat.reduceAdd, Nat.reduceSub, Nat.reduceMul, Nat.reduceLeDiff, Nat.reduceLT, Int.reduceEq, Int.reduceLT, Int.reduceLE, Int.reduceAdd, Int.reduceSub, Int.reduceNeg, Int.reduceToNat, Int.reduceMul, YJ, hH1, f1, w0, w1, w2, w3, eq_true hw, ↓Ya mf, Ya mf, ↓Ya mq, Ya mq]
  · obtain ⟨k, hk, hi, hj, _⟩ := Z7 (i := 0) hf
    rw [hi, Nat.zero_add] at mf
    rw [hf] at h mq
    dsimp only at h mq
    have c : ¬ j.state = 3 := fun c => h (by rw [if_pos c])
    rw [if_neg c] at mq
    obtain ⟨b1, o1, ix, l1, cb, hbv⟩ := Vj p1.m.own.rd hk
    have hj' : A[k] = j := by rw [List.getElem?_eq_getElem hk] at hj; exact Option.some.inj hj
    rw [hj'] at cb
    have c3 : Xw (H1.f b1) (o1 + 3) = some (.int .i64 j.state) := Y6 cb (i := 3) (by decide)
    have hnn : ¬ (k : Int) < 0 := by omega
    simp (maxSteps := 2000000) (disch := first | with_reducible rfl | assumption | omega | rfl | (simp only [go_sem]; first | done | omega)) only [go_sem, ↓reduceIte, reduceCtorEq, Nat.reduceEqDiff, Nat.reduceAdd, Nat.reduceSub, Nat.reduceMul, Nat.reduceLeDiff, Nat.reduceLT, Int.reduceEq, Int.reduceLT, Int.reduceLE, Int.reduceAdd, Int.reduceSub, Int.reduceNeg, Int.reduceToNat, Int.reduceMul, YJ, hH1, f1, w0, w1, w2, w3, eq_true hw, ↓Ya mf, Ya mf, hnn, g1, ix, c3, c, ↓Ya mq, Ya mq]
set_option maxHeartbeats 2000000 in
theorem does_revive (a : Act) (p : PS H0 H bq bm bk bl v tries A last now A last now) (hw : a.what = 4) (h : QZ A a.n = 0) : Did H0 bl tries last (CC F.law_does [.pointer (some ⟨bq, 0, none⟩), .pointer (some ⟨bl, 0, none⟩), .agg #[.int .i64 a.what, .int .i64 a.who, .int .i64 a.n, .string a.body]] H) := by
  have w0 : ¬ a.what = 0 := by omega
  have w1 : ¬ a.what = 1 := by omega
  have w2 : ¬ a.what = 2 := by omega
  have w3 : ¬ a.what = 3 := by omega
  have hAl := p.q.i.len
  obtain ⟨H1, hH1⟩ : ∃ H1, H.push (.cells [.int .i64 a.what, .int .i64 a.who, .int .i64 a.n, .string a.body] T.law_Act true) = H1 := ⟨_, rfl⟩
  obtain ⟨s1, n1, f1⟩ := Yu hH1
  have p1 := p.still s1
  have g1 := p1.m.f
  have mf := q_find bl A (by omega) v a.n H1 p1.m
  rcases Qb (A := A) a.n with hf | ⟨j, hf⟩
  · unfold QZ at h; rw [hf] at h; cases h
  have hid := (X4 hf).2
  have c : j.state = 3 := by
    unfold QZ at h
    rw [hf] at h
    dsimp only at h
    split at h
    · assumption
    · cases h
  obtain ⟨k, hk, hi, hj, _⟩ := Z7 (i := 0) hf
  rw [hi, Nat.zero_add] at mf
  obtain ⟨b1, o1, ix, l1, cb, hbv⟩ := Vj p1.m.own.rd hk
  have hj' : A[k] = j := by rw [List.getElem?_eq_getElem hk] at hj; exact Option.some.inj hj
  rw [hj'] at cb
  have c3 : Xw (H1.f b1) (o1 + 3) = some (.int .i64 j.state) := Y6 cb (i := 3) (by decide)
  have hnn : ¬ (k : Int) < 0 := by omega
  have hne : bl ≠ b1 := fun e => p1.m.nb (by rw [e]; exact hbv)
  obtain ⟨H2, w12, r2, n2, s2, v2, c2⟩ := Own.cellws hk p1.m.own ix (k := 3) (by decide) ⟨j.id, j.prio, j.body, 1, j.tries, j.who, j.til⟩ (.int .i64 1) rfl (by rw [hj']; rfl)
  obtain ⟨H3, w13, r3, n3, s3, v3, c3'⟩ := Own.cellws (by simpa using hk) r2 ix (k := 4) (by decide) ⟨j.id, j.prio, j.body, 1, 0, j.who, j.til⟩ (.int .i64 0) rfl (by rw [List.getElem_set_self]; rfl)
  rw [List.set_set] at r3
  have r3 : Own EJb H3 T.api_Job v (A.set k (Qv j)) := r3
  rw [set_rep p.q.i.a.inc hk (j := Qv j) (by rw [hj']; rfl)] at r3
  have s13 := s2.trans s3
  have hbl := p.m.lt
  have g3 : H3.f bl = .cells [v, .int .i64 tries, .int .i64 last, .int .i64 now] T.law_Model true := by rw [s13.f p1.m.lt hne]; exact g1
  have m3 : MS H3 bl (VN A (Qv j)) tries last now v := ⟨g3, by omega, r3, p1.m.nb⟩
  have hb1n : b1 < H.n := p.m.own.blk hbv
  have t3 : H3.f H.n = .cells [.int .i64 a.what, .int .i64 a.who, .int .i64 a.n, .string a.body] T.law_Act true := by rw [s13.f (by omega) (by omega)]; exact f1
  have p3 := p1.law s13 (fun c h => .inl (.inr (by rw [h]; exact hbv))) m3 fun c h => .inl h
  obtain ⟨H4, m4, q4, u4⟩ := p3.q.revive a.n j hf c
  have p4 := p3.queue u4 q4
  refine ⟨H4, bq, bm, bk, v, VN A (Qv j), last, now, (XM _ _ _ H (r := (.tuple #[.pointer (some ⟨bq, 0, none⟩), .bool true], H4)) ?_).trans (congrArg some (YP rfl)), p4, by omega⟩
  simp (maxSteps := 2000000) (disch := first | with_reducible rfl | assumption | omega | rfl | (simp only [go_sem]; first | done | omega)) only [go_sem, ↓reduceIte, reduceCtorEq, Nat.reduceEqDiff, Nat.reduceAdd, Nat.reduceSub, Nat.reduceMul, Nat.reduceLeDiff, Nat.reduceLT, Int.reduceEq, Int.reduceLT, Int.reduceLE, Int.reduceAdd, Int.reduceSub, Int.reduceNeg, Int.reduceToNat, Int.reduceMul, YJ, hH1, f1, w0, w1, w2, w3, eq_true hw, ↓Ya mf, Ya mf, hnn, g1, ix, c3, eq_true c, w12, w13, t3, ↓Ya m4, Ya m4]
end
end Go.Proofs.YtmiinbhnfojnbaaGreatDoor

set_option maxRecDepth 10000
namespace Go.Proofs.YtmiinbhnfojnbaaGreatDoor
open Go Eng
attribute [local congr] YO YM YI
section
variable {H0 H : AHeap} {bq bm bk bl : Nat} {v : Value} {tries last now : Int} {A : List Jb}
set_option maxHeartbeats 1000000 in
theorem does_take_bad (a : Act) (p : PS H0 H bq bm bk bl v tries A last now A last now) (hw : a.what = 1) (h : UH A now a.who a.n ≠ 0) : Did H0 bl tries last (CC F.law_does [.pointer (some ⟨bq, 0, none⟩), .pointer (some ⟨bl, 0, none⟩), .agg #[.int .i64 a.what, .int .i64 a.who, .int .i64 a.n, .string a.body]] H) := by
  have w0 : ¬ a.what = 0 := by omega
  have hAl := p.q.i.len
  have hnow := p.q.i.n
  obtain ⟨H1, hH1⟩ : ∃ H1, H.push (.cells [.int .i64 a.what, .int .i64 a.who, .int .i64 a.n, .string a.body] T.law_Act true) = H1 := ⟨_, rfl⟩
  obtain ⟨s1, n1, f1⟩ := Yu hH1
  have p1 := p.still s1
  have g1 := p1.m.f
  by_cases hb : a.who < 1 ∨ 1000 < a.who ∨ a.n < 1 ∨ 1099511627776 - now < a.n
  · have mq := p1.q.takesBad a.who a.n h
    have hE : UH A now a.who a.n = 2 := by unfold UH; rw [if_pos hb]
    rw [hE] at mq
    refine ⟨H1, bq, bm, bk, v, A, last, now, (XM _ _ _ H (r := (.tuple #[.pointer (some ⟨bq, 0, none⟩), .bool true], H1)) ?_).trans (congrArg some (YP rfl)), p1, by omega⟩
    by_cases h1 : a.who < 1
    · simp (maxSteps := 2000000) (disch := first | with_reducible rfl | assumption | omega | rfl | (simp only [go_sem]; first | done | omega)) only [go_sem, ↓reduceIte, reduceCtorEq, Nat.reduceEqDiff, Nat.reduceAdd, Nat.reduceSub, Nat.reduceMul, Nat.reduceLeDiff, Nat.reduceLT, Int.reduceEq, Int.reduceLT, Int.reduceLE, Int.reduceAdd, Int.reduceSub, Int.reduceNeg, Int.reduceToNat, Int.reduceMul, YJ, hH1, f1, w0, eq_true hw, h1, ↓Ya mq, Ya mq]
    by_cases h2 : 1000 < a.who
    · simp (maxSteps := 2000000) (disch := first | with_reducible rfl | assumption | omega | rfl | (simp only [go_sem]; first | done | omega)) only [go_sem, ↓reduceIte, reduceCtorEq, Nat.reduceEqDiff, Nat.reduceAdd, Nat.reduceSub, Nat.reduceMul, Nat.reduceLeDiff, Nat.reduceLT, Int.reduceEq, Int.reduceLT, Int.reduceLE, Int.reduceAdd, Int.reduceSub, Int.reduceNeg, Int.reduceToNat, Int.reduceMul, YJ, hH1, f1, w0, eq_true hw, h1, h2, ↓Ya mq, Ya mq]
    by_cases h3 : a.n < 1
    · simp (maxSteps := 2000000) (disch := first | with_reducible rfl | assumption | omega | rfl | (simp only [go_sem]; first | done | omega)) only [go_sem, ↓reduceIte, reduceCtorEq, Nat.reduceEqDiff, Nat.reduceAdd, Nat.reduceSub, Nat.reduceMul, Nat.reduceLeDiff, Nat.reduceLT, Int.reduceEq, Int.reduceLT, Int.reduceLE, Int.reduceAdd, Int.reduceSub, Int.reduceNeg, Int.reduceToNat, Int.reduceMul, YJ, hH1, f1, w0, eq_true hw, h1, h2, h3, ↓Ya mq, Ya mq]
    have h4 : 1099511627776 - now < a.n := by omega
    simp (maxSteps := 2000000) (disch := first | with_reducible rfl | assumption | omega | rfl | (simp only [go_sem]; first | done | omega)) only [go_sem, ↓reduceIte, reduceCtorEq, Nat.reduceEqDiff, Nat.reduceAdd, Nat.reduceSub, Nat.reduceMul, Nat.reduceLeDiff, Nat.reduceLT, Int.reduceEq, Int.reduceLT, Int.reduceLE, Int.reduceAdd, Int.reduceSub, Int.reduceNeg, Int.reduceToNat, Int.reduceMul, YJ, hH1, f1, w0, eq_true hw, h1, h2, h3, g1, h4, ↓Ya mq, Ya mq]
  have h1 : ¬ a.who < 1 := by omega
  have h2 : ¬ 1000 < a.who := by omega
  have h3 : ¬ a.n < 1 := by omega
  have h4 : ¬ 1099511627776 - now < a.n := by omega
  have hwn : QX A = [] := by
    by_cases hc : QX A = []
    · exact hc
    · exact absurd (by unfold UH; rw [if_neg hb, if_neg hc]) h
  have hE : UH A now a.who a.n = 9 := by unfold UH; rw [if_neg hb, if_pos hwn]
  obtain ⟨w, H2, m2, so⟩ := q_sorted bl A (by omega) v H1 p1.m
  have p2 := p1.still so.still
  have mq := p2.q.takesBad a.who a.n h
  rw [hE] at mq
  have t2 : H2.f H.n = .cells [.int .i64 a.what, .int .i64 a.who, .int .i64 a.n, .string a.body] T.law_Act true := by rw [so.still.f (by omega) fun h => h]; exact f1
  have hlen := so.own.rd.lenS
  refine ⟨H2, bq, bm, bk, v, A, last, now, (XM _ _ _ H (r := (.tuple #[.pointer (some ⟨bq, 0, none⟩), .bool true], H2)) ?_).trans (congrArg some (YP rfl)), p2, by omega⟩
  cases hs : WC A with
  | nil =>
    rw [hs] at hlen
    have hlen : lenS w = some (.int .i64 0) := hlen
    simp (maxSteps := 2000000) (disch := first | with_reducible rfl | assumption | omega | rfl | (simp only [go_sem]; first | done | omega)) only [go_sem, ↓reduceIte, reduceCtorEq, Nat.reduceEqDiff, Nat.reduceAdd, Nat.reduceSub, Nat.reduceMul, Nat.reduceLeDiff, Nat.reduceLT, Int.reduceEq, Int.reduceLT, Int.reduceLE, Int.reduceAdd, Int.reduceSub, Int.reduceNeg, Int.reduceToNat, Int.reduceMul, YJ, hH1, f1, w0, eq_true hw, h1, h2, h3, g1, h4, ↓Ya m2, Ya m2, hlen, t2, ↓Ya mq, Ya mq]
  | cons j l =>
    have hns : ¬ j.state = 1 := fun e => by
      obtain ⟨t, ht⟩ := wait_head hs e
      rw [ht] at hwn
      cases hwn
    rw [hs] at so hlen
    have hlen : lenS w = some (.int .i64 ((l.length : Int) + 1)) := hlen
    have hne : ¬ (l.length : Int) + 1 = 0 := by omega
    obtain ⟨b1, o1, ix, l1, cb, hbv⟩ := Vj so.own.rd (i := 0) (by simp)
    have ix : ixS 7 w (.int .i64 0) = some (.pointer (some ⟨b1, o1, none⟩)) := ix
    have c3 : Xw (H2.f b1) (o1 + 3) = some (.int .i64 j.state) := Y6 cb (i := 3) (by decide)
    simp (maxSteps := 2000000) (disch := first | with_reducible rfl | assumption | omega | rfl | (simp only [go_sem]; first | done | omega)) only [go_sem, ↓reduceIte, reduceCtorEq, Nat.reduceEqDiff, Nat.reduceAdd, Nat.reduceSub, Nat.reduceMul, Nat.reduceLeDiff, Nat.reduceLT, Int.reduceEq, Int.reduceLT, Int.reduceLE, Int.reduceAdd, Int.reduceSub, Int.reduceNeg, Int.reduceToNat, Int.reduceMul, YJ, hH1, f1, w0, eq_true hw, h1, h2, h3, g1, h4, ↓Ya m2, Ya m2, hlen, hne, ix, c3, hns, t2, ↓Ya mq, Ya mq]
set_option maxHeartbeats 4000000 in
theorem does_take (a : Act) (p : PS H0 H bq bm bk bl v tries A last now A last now) (hw : a.what = 1) (h : UH A now a.who a.n = 0) : Did H0 bl tries last (CC F.law_does [.pointer (some ⟨bq, 0, none⟩), .pointer (some ⟨bl, 0, none⟩), .agg #[.int .i64 a.what, .int .i64 a.who, .int .i64 a.n, .string a.body]] H) := by
  have w0 : ¬ a.what = 0 := by omega
  have hAl := p.q.i.len
  have hnow := p.q.i.n
  obtain ⟨H1, hH1⟩ : ∃ H1, H.push (.cells [.int .i64 a.what, .int .i64 a.who, .int .i64 a.n, .string a.body] T.law_Act true) = H1 := ⟨_, rfl⟩
  obtain ⟨s1, n1, f1⟩ := Yu hH1
  have p1 := p.still s1
  have g1 := p1.m.f
  have hbl := p.m.lt
  have hb : ¬ (a.who < 1 ∨ 1000 < a.who ∨ a.n < 1 ∨ 1099511627776 - now < a.n) := fun c => by unfold UH at h; rw [if_pos c] at h; cases h
  have hwn : ¬ QX A = [] := fun c => by unfold UH at h; rw [if_neg hb, if_pos c] at h; cases h
  have h1 : ¬ a.who < 1 := by omega
  have h2 : ¬ 1000 < a.who := by omega
  have h3 : ¬ a.n < 1 := by omega
  have h4 : ¬ 1099511627776 - now < a.n := by omega
  obtain ⟨w, H2, m2, so⟩ := q_sorted bl A (by omega) v H1 p1.m
  have p2 := p1.still so.still
  have t2 : H2.f H.n = .cells [.int .i64 a.what, .int .i64 a.who, .int .i64 a.n, .string a.body] T.law_Act true := by rw [so.still.f (by omega) fun h => h]; exact f1
  have g2 := p2.m.f
  have hlen := so.own.rd.lenS
  cases hs : WC A with
  | nil => exact absurd (wait_nil p.q.i.a fun a l e => by rw [hs] at e; cases e) hwn
  | cons j l =>
  have hst : j.state = 1 := by
    by_cases e : j.state = 1
    · exact e
    · exact absurd (wait_nil p.q.i.a fun a l' e' => by rw [hs] at e'; cases e'; exact e) hwn
  obtain ⟨t, ht⟩ := wait_head hs hst
  rw [hs] at so hlen
  have hlen : lenS w = some (.int .i64 ((l.length : Int) + 1)) := hlen
  have hne : ¬ (l.length : Int) + 1 = 0 := by omega
  obtain ⟨b1, o1, ix, l1, cb, hbv⟩ := Vj so.own.rd (i := 0) (by simp)
  have ix : ixS 7 w (.int .i64 0) = some (.pointer (some ⟨b1, o1, none⟩)) := ix
  have c3 : Xw (H2.f b1) (o1 + 3) = some (.int .i64 j.state) := Y6 cb (i := 3) (by decide)
  have c0 : Xw (H2.f b1) o1 = some (.int .i64 j.id) := Y6 cb (i := 0) (by decide)
  have hjA := (wait_mem ht).1
  have hjo := p.q.i.a.ok j hjA
  have hf := Zx p.q.i.a.inc hjA
  have mf := q_find bl A (by omega) v j.id H2 p2.m
  obtain ⟨k, hk, hi, hj, _⟩ := Z7 (i := 0) hf
  rw [hi, Nat.zero_add] at mf
  have hj' : A[k] = j := by rw [List.getElem?_eq_getElem hk] at hj; exact Option.some.inj hj
  obtain ⟨b2, o2, ix2, l2, cb2, hbv2⟩ := Vj p2.m.own.rd hk
  rw [hj'] at cb2
  have t4 : Xw (H2.f b2) (o2 + 4) = some (.int .i64 j.tries) := Y6 cb2 (i := 4) (by decide)
  have hnb : bl ≠ b2 := fun e => p2.m.nb (by rw [e]; exact hbv2)
  have hb2n : b2 < H.n := p.m.own.blk hbv2
  obtain ⟨H3, w3, r3, n3, s3, v3, c3'⟩ := Own.cellws hk p2.m.own ix2 (k := 3) (by decide) ⟨j.id, j.prio, j.body, 2, j.tries, j.who, j.til⟩ (.int .i64 2) rfl (by rw [hj']; rfl)
  obtain ⟨H4, w4, r4, n4, s4, v4, c4⟩ := Own.cellws (by simpa using hk) r3 ix2 (k := 5) (by decide) ⟨j.id, j.prio, j.body, 2, j.tries, a.who, j.til⟩ (.int .i64 a.who) rfl (by rw [List.getElem_set_self]; rfl)
  obtain ⟨H5, w5, r5, n5, s5, v5, c5⟩ := Own.cellws (by simpa using hk) r4 ix2 (k := 6) (by decide) ⟨j.id, j.prio, j.body, 2, j.tries, a.who, now + a.n⟩ (.int .i64 (now + a.n)) rfl (by rw [List.getElem_set_self]; rfl)
  obtain ⟨H6, w6, r6, n6, s6, v6, c6⟩ := Own.cellws (by simpa using hk) r5 ix2 (k := 4) (by decide) ⟨j.id, j.prio, j.body, 2, j.tries + 1, a.who, now + a.n⟩ (.int .i64 (j.tries + 1)) rfl (by rw [List.getElem_set_self]; rfl)
  rw [List.set_set, List.set_set, List.set_set] at r6
  have r6 : Own EJb H6 T.api_Job v (A.set k (WK j now a.who a.n)) := r6
  rw [set_rep p.q.i.a.inc hk (j := WK j now a.who a.n) (by rw [hj']; rfl)] at r6
  have s26 := ((s3.trans s4).trans s5).trans s6
  have n12 := so.still.n
  have g6 : H6.f bl = .cells [v, .int .i64 tries, .int .i64 last, .int .i64 now] T.law_Model true := by rw [s26.f (by omega) hnb]; exact g2
  have t6 : H6.f H.n = .cells [.int .i64 a.what, .int .i64 a.who, .int .i64 a.n, .string a.body] T.law_Act true := by rw [s26.f (by omega) (by omega)]; exact t2
  have m6 : MS H6 bl (VN A (WK j now a.who a.n)) tries last now v := ⟨g6, by omega, r6, p2.m.nb⟩
  have p6 := p2.law s26 (fun c h => .inl (.inr (by rw [h]; exact hbv2))) m6 fun c h => .inl h
  have cb6 : VA (H6.f b2) o2 7 = some [.int .i64 (WK j now a.who a.n).id, .int .i64 (WK j now a.who a.n).prio, .string (WK j now a.who a.n).body, .int .i64 (WK j now a.who a.n).state, .int .i64 (WK j now a.who a.n).tries, .int .i64 (WK j now a.who a.n).who, .int .i64 (WK j now a.who a.n).til] := c6
  obtain ⟨H7, m7, q7, u7⟩ := p6.q.takes a.who a.n j t h ht
  have m7 : CC F.law_takes [.pointer (some ⟨bq, 0, none⟩), .int .i64 a.who, .int .i64 a.n, .agg #[.int .i64 (WK j now a.who a.n).id, .int .i64 (WK j now a.who a.n).prio, .string (WK j now a.who a.n).body, .int .i64 (WK j now a.who a.n).state, .int .i64 (WK j now a.who a.n).tries, .int .i64 (WK j now a.who a.n).who, .int .i64 (WK j now a.who a.n).til], .int .i64 0] H6 = some (.bool true, H7) := m7
  have p7 := p6.queue u7 q7
  have htr := hjo.tries
  have hnn : ¬ (k : Int) < 0 := by omega
  have ck : ∀ (k : Nat) (a a' : AHeap), Fr (fun c => c = b2) a a' → k < a.n → k ≠ b2 → ∀ (go : Option Bool) (b b' : AHeap), (a.n ≤ b.n ∨ b'.n ≤ b.n) → okV go (some k) a a' b b' = true := fun k a a' f h1 h2 go b b' h => okV_v (f.ver h1 h2) h
  have k1 := ck H.n H2 H3 s3 (by omega) (by omega)
  have k2 := ck H.n H3 H4 s4 (by omega) (by omega)
  have k3 := ck H.n H4 H5 s5 (by omega) (by omega)
  have k4 := ck H.n H5 H6 s6 (by omega) (by omega)
  have k5 := ck bl H2 H3 s3 (by omega) (by omega)
  have k6 := ck bl H3 H4 s4 (by omega) (by omega)
  have k7 := ck bl H4 H5 s5 (by omega) (by omega)
  have k8 := ck bl H5 H6 s6 (by omega) (by omega)
  refine ⟨H7, bq, bm, bk, v, VN A (WK j now a.who a.n), last, now, (XM _ _ _ H (r := (.tuple #[.pointer (some ⟨bq, 0, none⟩), .bool true], H7)) ?_).trans (congrArg some (YP rfl)), p7, by omega⟩
  generalize hx : WK j now a.who a.n = x at cb6 m7
  simp (maxSteps := 2000000) (disch := first | with_reducible rfl | assumption | omega | rfl | (simp only [go_sem]; first | done | omega)) only [go_sem, ↓reduceIte, reduceCtorEq, Nat.reduceEqDiff, Nat.reduceAdd, Nat.reduceSub, Nat.reduceMul, Nat.reduceLeDiff, Nat.reduceLT, Int.reduceEq, Int.reduceLT, Int.reduceLE, Int.reduceAdd, Int.reduceSub, Int.reduceNeg, Int.reduceToNat, Int.reduceMul, YJ, hH1, f1, w0, eq_true hw, h1, h2, h3, g1, h4, ↓Ya m2, Ya m2, hlen, hne, ix, c3, c0, eq_true hst, t2, g2, ↓Ya mf, Ya mf, ix2, t4, w3, w4, w5, w6, t6, cb6, ↓Ya m7, Ya m7, k1, k2, k3, k4, k5, k6, k7, k8]
theorem does_copy (a : Act) (p : PS H0 H bq bm bk bl v tries A last now A last now) (hl : last < 900) (w0 : ¬ a.what = 0) (w1 : ¬ a.what = 1) (w2 : ¬ a.what = 2) (w3 : ¬ a.what = 3) (w4 : ¬ a.what = 4) (w5 : ¬ a.what = 5) : Did H0 bl tries last (CC F.law_does [.pointer (some ⟨bq, 0, none⟩), .pointer (some ⟨bl, 0, none⟩), .agg #[.int .i64 a.what, .int .i64 a.who, .int .i64 a.n, .string a.body]] H) := by
  obtain ⟨H1, hH1⟩ : ∃ H1, H.push (.cells [.int .i64 a.what, .int .i64 a.who, .int .i64 a.n, .string a.body] T.law_Act true) = H1 := ⟨_, rfl⟩
  obtain ⟨s1, n1, f1⟩ := Yu hH1
  have p1 := p.still s1
  obtain ⟨bq', bm', bk', H2, m2, q2, s2, new2⟩ := p1.q.copy
  have p2 := p1.still s2
  have hb5 : (Eng.bl (Eng.mk [111, 116, 104, 101, 114])).length ≤ 15 := by decide
  obtain ⟨H3, m3, r3, u3⟩ := q_QPut bq bm bk A tries last now 9 (Eng.mk [111, 116, 104, 101, 114]) H2 p2.q.ok p2.q.r p2.q.i hl (by decide) hb5
  have hll := p.q.i.l
  have ht := p.q.i.t
  have i3 : QI (A ++ [newJ (last + 1) 9 (Eng.mk [111, 116, 104, 101, 114])]) tries (last + 1) now := ⟨p.q.i.a.put (newJ_ok (by omega) (by decide) hb5) rfl, p.q.i.t, by omega, p.q.i.n, fun x hx hs => by
    rcases List.mem_append.1 hx with h1 | h1
    · exact p.q.i.w x h1 hs
    · rw [List.mem_singleton.1 h1]; show (0 : Int) < tries; omega⟩
  have ok3 := p2.q.ok.fr u3.fr
  obtain ⟨e4, H4, m4, u4⟩ : ∃ e4 H4, CC F.jobs_Queue_Take [.pointer (some ⟨bq, 0, none⟩), .int .i64 1, .int .i64 1] H3 = some (e4, H4) ∧ UpQ H3 bq bm bk H4 := by
    by_cases hE : UH (A ++ [newJ (last + 1) 9 (Eng.mk [111, 116, 104, 101, 114])]) now 1 1 = 0
    · cases hwt : QX (A ++ [newJ (last + 1) 9 (Eng.mk [111, 116, 104, 101, 114])]) with
      | nil => unfold UH at hE; rw [if_pos hwt] at hE; split at hE <;> cases hE
      | cons j t =>
        obtain ⟨H4, m4, _, _, u4⟩ := q_QTake bq bm bk _ tries (last + 1) now 1 1 j t H3 ok3 r3 i3 hE hwt
        exact ⟨_, H4, m4, u4⟩
    · exact ⟨_, H3, q_QTake_bad bq bm bk _ tries (last + 1) now 1 1 H3 ok3 r3 i3 hE, UpQ.refl _ _ _ _⟩
  have u24 := u3.trans u4
  have hold : ∀ c, QB H2 bq bm bk c → c < H1.n := fun c h => p1.q.r.blk (h.still p1.q.r.mdl s2)
  have q4 : QS H4 bq' bm' bk' A tries last now := ⟨p2.q.ok.fr u24.fr, q2.r.keep u24.fr fun c h1 h2 => by have := new2 c h1; have := hold c h2; omega, q2.i⟩
  have hkc : ∀ c, QB H4 bq' bm' bk' c → QB H2 bq' bm' bk' c := fun c h => by
    have hm := ZE q2.r.mdl u24.fr fun c hc h2 => by have := new2 c (.inr (.inr hc)); have := hold c h2; omega
    exact h.imp id fun h => h.imp id (hm.2 c)
  have p4 : PS H0 H4 bq' bm' bk' bl v tries A last now A last now := ⟨q4, p2.m.keep u24.fr fun c h1 h2 => p2.dis c h2 h1, fun c h1 h2 => by have := new2 c (hkc c h1); have := p1.m.blk h2; omega,
    p2.st.then u24.fr fun b hb h => by have := p2.nq b h; omega, fun c h => Nat.le_trans (p1.st.n) (new2 c (hkc c h)), p2.nl⟩
  have qn : ∀ ox oy, Yh Tryz.prog .neq T.p_jobs_Queue ox oy (.pointer (some ⟨bq', 0, none⟩)) (.pointer none) = some (.bool true) := fun ox oy => nil_ptr_ne Tryz.underlying25
  have n12 := s2.n
  refine ⟨H4, bq', bm', bk', v, A, last, now, (XM _ _ _ H (r := (.tuple #[.pointer (some ⟨bq', 0, none⟩), .bool true], H4)) ?_).trans (congrArg some (YP rfl)), p4, by omega⟩
  simp (maxSteps := 2000000) (disch := first | with_reducible rfl | assumption | omega | rfl | (simp only [go_sem]; first | done | omega)) only [go_sem, ↓reduceIte, reduceCtorEq, Nat.reduceEqDiff, Nat.reduceAdd, Nat.reduceSub, Nat.reduceMul, Nat.reduceLeDiff, Nat.reduceLT, Int.reduceEq, Int.reduceLT, Int.reduceLE, Int.reduceAdd, Int.reduceSub, Int.reduceNeg, Int.reduceToNat, Int.reduceMul, YJ, hH1, f1, w0, w1, w2, w3, w4, w5, ↓Ya m2, Ya m2, ↓Ya m3, Ya m3, ↓Ya m4, Ya m4, qn]
end
end Go.Proofs.YtmiinbhnfojnbaaGreatDoor

namespace Go.Proofs.YtmiinbhnfojnbaaGreatDoor
open Go Eng
noncomputable def XX (mg : GT) (mc : CT) (ms : ST) (P : Program) (C : Yc) (L0 : Value → Value → Value → Value → AHeap → K → Res) (a0 a1 : Value) (H : AHeap) (K0 : K) : Res :=
Yg C F.law_small [a1, (.int .i64 36)] H fun t12 h1 =>
Yb (xun P .not t12) h1 fun t13 h2 =>
mc t13 (fun k1 => Yg C F.law_known [] h2 fun t14 h3 =>
k1 .ret [(4, t14)] h3) (fun k1 =>
k1 .normal [(0, a0), (1, a1)] h2) (Ys (fun tT h4 =>
Yg C F.jobs_New [(get tT 0)] h4 fun t17 h5 =>
Yb (Yp t17 0) h5 fun t18 h6 =>
Yb (Yp t17 1) h6 fun t19 h7 =>
Yb (Yh P .lss T.int (.tmp 20) (.const (.int .i64 1)) (get tT 0) (.int .i64 1)) h7 fun t21 h8 =>
mg t21 false (fun o2 => o2 (get tT 0) h8) h8 fun t23 h9 =>
mg t21 false (fun o3 => Yb (Yh P .gtr T.int (.tmp 23) (.const (.int .i64 100)) t23 (.int .i64 100)) h9 o3) h9 fun t24 h10 =>
YG t21 (.bool true) t24 fun t25 =>
mc t25 (fun k4 => Yb (Yh P .eql T.p_jobs_Queue (.tmp 26) (.const (.pointer none)) t18 (.pointer none)) h10 fun t27 h11 =>
mg t27 true (fun o5 => o5 t19 h11) h11 fun t29 h12 =>
mg t27 true (fun o6 => Yb (Yh P .eql T.api_Errno (.tmp 29) (.const (.int .i64 2)) t29 (.int .i64 2)) h12 o6) h12 fun t30 h13 =>
YG t27 t30 (.bool false) fun t31 =>
mg t31 true (fun o7 => Yg C F.law_known [] h13 o7) h13 fun t33 h14 =>
YG t31 t33 (.bool false) fun t34 =>
k4 .ret [(4, t34)] h14) (fun k4 =>
k4 .normal [(0, (get tT 0)), (1, (get tT 1)), (5, t18), (6, t19)] h10) (Ys (fun tT_1 h15 =>
Yb (W9 #[(.slice none 0 0), (.int .i64 0), (.int .i64 0), (.int .i64 0)] [(0, 1), (1, 1), (2, 1), (3, 1)] [(1, (get tT_1 0))]) h15 fun t36 h16 =>
Yq (Xs T.law_Model t36 h16) fun t37 h17 =>
Yb (Yh P .neq T.api_Errno (.tmp 38) (.const (.int .i64 0)) (get tT_1 6) (.int .i64 0)) h17 fun t39 h18 =>
mg t39 false (fun o8 => o8 (get tT_1 5) h18) h18 fun t41 h19 =>
mg t39 false (fun o9 => o9 t37 h19) h19 fun t42 h20 =>
mg t39 false (fun o10 => Yg C F.law_alike [t41, t42] h20 o10) h20 fun t43 h21 =>
mg t39 false (fun o11 => Yb (xun P .not t43) h21 o11) h21 fun t44 h22 =>
YG t39 (.bool true) t44 fun t45 =>
mc t45 (fun k12 => k12 .ret [(4, (.bool false))] h22) (fun k12 =>
k12 .normal [(1, (get tT_1 1)), (5, (get tT_1 5)), (7, t37)] h22) (Ys (fun tT_2 h23 =>
ms (fun k13 =>
L0 (get tT_2 1) (get tT_2 5) (get tT_2 7) (.int .i64 0) h23 (YB [] 0 k13)) (Ys (fun tT_3 h24 =>
Yg C F.law_known [] h24 fun t71 h25 =>
K0 .ret [(4, t71)] h25) K0)) K0)) K0)) K0)
noncomputable def Vw (mg : GT) (mc : CT) (ms : ST) (P : Program) (C : Yc) (L0 : Value → Value → Value → Value → AHeap → K → Res) (v1 v5 v7 v8 : Value) (H : AHeap) (k : K) : Res :=
Yb (lenS v1) H fun t48 h24 =>
Yb (Yh P .lss T.int (.tmp 46) (.tmp 48) v8 t48) h24 fun t49 h25 =>
mc t49 (fun k14 => k14 .normal [(1, v1), (5, v5), (7, v7), (8, v8)] h25) (fun k14 =>
k14 (.exit 0) [(49, t49), (48, t48), (47, v1), (46, v8), (1, v1), (5, v5), (7, v7), (8, v8)] h25) (Ys (fun tT h26 =>
ms (fun k15 =>
Yb (ixS 4 (get tT 1) (get tT 8)) h26 fun t57 h27 =>
Yb (ldN 4 h27 t57) h27 fun t58 h28 =>
Yg C F.law_does [(get tT 5), (get tT 7), t58] h28 fun t59 h29 =>
Yb (Yp t59 0) h29 fun t60 h30 =>
Yb (Yp t59 1) h30 fun t61 h31 =>
Yb (xun P .not t61) h31 fun t63 h32 =>
mg t63 false (fun o16 => o16 t60 h32) h32 fun t65 h33 =>
mg t63 false (fun o17 => o17 (get tT 7) h33) h33 fun t66 h34 =>
mg t63 false (fun o18 => Yg C F.law_alike [t65, t66] h34 o18) h34 fun t67 h35 =>
mg t63 false (fun o19 => Yb (xun P .not t67) h35 o19) h35 fun t68 h36 =>
YG t63 (.bool true) t68 fun t69 =>
mc t69 (fun k20 => k20 .ret [(4, (.bool false))] h36) (fun k20 =>
k20 .normal [(1, (get tT 1)), (7, (get tT 7)), (8, (get tT 8)), (9, t60)] h36) (Ys (fun tT_1 h37 =>
k15 .normal [(1, (get tT_1 1)), (5, (get tT_1 9)), (7, (get tT_1 7)), (8, (get tT_1 8))] h37) (YB [1, 5, 7, 8] 1 k15))) (Ys (fun tT_2 h38 =>
Yb (Yh P .add T.int (.tmp 50) (.const (.int .i64 1)) (get tT_2 8) (.int .i64 1)) h38 fun t51 h39 =>
k .normal [(1, (get tT_2 1)), (5, (get tT_2 5)), (7, (get tT_2 7)), (8, t51)] h39) (Yn [1, 5, 7, 8] k))) (Yn [1, 5, 7, 8] k))
theorem s_law_JobsPlays_eq (M : CombL) (C : Yc) (LP : Yx) (a0 a1 : Value) (H : AHeap) : Yw M Tryz.prog hints C LP F.law_JobsPlays [a0, a1] H = XX M.b.g M.c M.s Tryz.prog C (fun v1 v5 v7 v8 H k => Yv M Tryz.prog hints C LP F.law_JobsPlays 0 [(1, v1), (5, v5), (7, v7), (8, v8)] H k) a0 a1 H (Yj Tryz.prog [.tmp 4]) := by kernel_rfl
theorem s_law_JobsPlays_b0_eq (M : CombL) (C : Yc) (LP : Yx) (v1 v5 v7 v8 : Value) (H : AHeap) (k : K) : W3 M Tryz.prog hints C LP F.law_JobsPlays 0 [(1, v1), (5, v5), (7, v7), (8, v8)] H (Yn [1, 5, 7, 8] k) = Vw M.b.g M.c M.s Tryz.prog C (fun v1 v5 v7 v8 H k => Yv M Tryz.prog hints C LP F.law_JobsPlays 0 [(1, v1), (5, v5), (7, v7), (8, v8)] H k) v1 v5 v7 v8 H k := by kernel_rfl
end Go.Proofs.YtmiinbhnfojnbaaGreatDoor

namespace Go.Proofs.YtmiinbhnfojnbaaGreatDoor
open Go Eng
noncomputable def XL (v1 v5 v7 v8 : Value) (H : AHeap) (k : K) : Res := Yv Yd Tryz.prog hints CC Yo F.law_JobsPlays 0 [(1, v1), (5, v5), (7, v7), (8, v8)] H k
theorem ZC (v1 v5 v7 v8 : Value) (H : AHeap) (k : K) : XL v1 v5 v7 v8 H k = Vw Yf Ym Yi Tryz.prog CC XL v1 v5 v7 v8 H (Ys (fun T H => XL (get T 1) (get T 5) (get T 7) (get T 8) H k) k) := ((YL (by kernel_rfl) rfl H k).trans (s_law_JobsPlays_b0_eq Yd CC Yo v1 v5 v7 v8 H _)).trans (by kernel_rfl)
theorem QQ (a0 a1 : Value) (H : AHeap) {r : Value × AHeap} (h : XX Yf Ym Yi Tryz.prog CC XL a0 a1 H (Yj Tryz.prog [.tmp 4]) = some r) : CC F.law_JobsPlays [a0, a1] H = some (tidy H r) := Yy (by kernel_rfl) ((s_law_JobsPlays_eq Yd CC Yo a0 a1 H).trans (Eq.trans (show XX Yd.b.g Yd.c Yd.s Tryz.prog CC (fun v1 v5 v7 v8 H k => Yv Yd Tryz.prog hints CC Yo F.law_JobsPlays 0 [(1, v1), (5, v5), (7, v7), (8, v8)] H k) a0 a1 H (Yj Tryz.prog [.tmp 4]) = XX Yf Ym Yi Tryz.prog CC XL a0 a1 H (Yj Tryz.prog [.tmp 4]) by kernel_rfl) h))
end Go.Proofs.YtmiinbhnfojnbaaGreatDoor

set_option maxRecDepth 10000
namespace Go.Proofs.YtmiinbhnfojnbaaGreatDoor
open Go Eng
attribute [local congr] YO YM YI
def dueF (tries tick : Int) (a : Jb) : Jb := if a.state = 2 ∧ a.til ≤ tick then XK tries a else a
theorem pass_map (A : List Jb) (tries tick : Int) : passJ A tries tick = A.map (dueF tries tick) := rfl
set_option maxHeartbeats 1000000 in
theorem l_pass2 (a : Act) (bl ba : Nat) (v p0 : Value) (tries last : Int) (hab : ba ≠ bl) (hav : ∀ c, Ye v = some c → c ≠ ba) :
    ∀ (t : List Jb) (i : Nat) (H : AHeap) (o : List Jb), o.length = i → (o ++ t).length ≤ 1000 → Ok H → MS H bl (o ++ t) tries last a.n v → H.f ba = .cells [.int .i64 a.what, .int .i64 a.who, .int .i64 a.n, .string a.body] T.law_Act true → ba < H.n →
    ∃ H', MS H' bl (o ++ t.map (dueF tries a.n)) tries last a.n v ∧ Fr (LB bl v) H H' ∧
      ∀ K : K, Vx p0 (.pointer (some ⟨bl, 0, none⟩)) (.pointer (some ⟨ba, 0, none⟩)) (.int .i64 (i : Int)) H (YB [0, 5] 3 K) = K .normal [(0, p0), (5, .pointer (some ⟨ba, 0, none⟩))] H'
  | [], i, H, o, ho, hl, ok, m, fa, hba => by
    have f := m.f
    have hlen := m.own.rd.lenS
    rw [List.append_nil, ho] at hlen
    have hlt : ¬ (i : Int) < (i : Int) := by omega
    refine ⟨H, m, Fr.refl H, fun K => ?_⟩
    rw [Gp]
    simp (disch := first | with_reducible rfl | assumption | omega | rfl | (simp only [go_sem]; first | done | omega)) only [go_sem, ↓reduceIte, reduceCtorEq, Nat.reduceEqDiff, Nat.reduceAdd, Nat.reduceSub, Nat.reduceMul, Nat.reduceLeDiff, Nat.reduceLT, Int.reduceEq, Int.reduceLT, Int.reduceLE, Int.reduceAdd, Int.reduceSub, Int.reduceNeg, Int.reduceToNat, Int.reduceMul, ↓VH, f, hlen, hlt]
  | j :: t, i, H, o, ho, hl, ok, m, fa, hba => by
    have f := m.f
    have hlen := m.own.rd.lenS
    have hi : i < (o ++ j :: t).length := by simp; omega
    have hlt : (i : Int) < ((o ++ j :: t).length : Int) := by omega
    have hij : (o ++ j :: t)[i] = j := by simp [← ho]
    obtain ⟨b1, o1, ix, l1, cb, hbv⟩ := Vj m.own.rd hi
    rw [hij] at cb
    have c3 : Xw (H.f b1) (o1 + 3) = some (.int .i64 j.state) := Y6 cb (i := 3) (by decide)
    have c6 : Xw (H.f b1) (o1 + 6) = some (.int .i64 j.til) := Y6 cb (i := 6) (by decide)
    have hib : i < 1000 := by omega
    have e1 : ((i : Int) + 1) = ((i + 1 : Nat) : Int) := by omega
    by_cases hd : j.state = 2 ∧ j.til ≤ a.n
    · obtain ⟨H1, m1, r1, f1⟩ := q_lback bl (o ++ j :: t) v i hi H ok m
      have hset : (o ++ j :: t).set i (XK tries (o ++ j :: t)[i]) = (o ++ [dueF tries a.n j]) ++ t := by
        rw [hij, List.set_append, if_neg (by omega), show i - o.length = 0 by omega, List.set_cons_zero, List.append_assoc]
        unfold dueF
        rw [if_pos hd]; rfl
      rw [hset] at r1
      have hlba : ¬ LB bl v ba := fun h => by
        rcases h with h | h
        · exact hab h
        · exact hav _ h rfl
      obtain ⟨H', r', f', e'⟩ := l_pass2 a bl ba v p0 tries last hab hav t (i + 1) H1 (o ++ [dueF tries a.n j]) (by simp; omega) (by simp at hl ⊢; omega) (ok.fr f1) r1 (by rw [f1.f hba hlba]; exact fa) (Nat.lt_of_lt_of_le hba f1.n)
      rw [List.append_assoc] at r'
      refine ⟨H', by rw [List.map_cons]; exact r', f1.trans f', fun K => ?_⟩
      have e' := e' K
      rw [← e1] at e'
      have hd1 := hd.1
      have hd2 := hd.2
      rw [Gp]
      simp (disch := first | with_reducible rfl | assumption | omega | rfl | (simp only [go_sem]; first | done | omega)) only [go_sem, ↓reduceIte, reduceCtorEq, Nat.reduceEqDiff, Nat.reduceAdd, Nat.reduceSub, Nat.reduceMul, Nat.reduceLeDiff, Nat.reduceLT, Int.reduceEq, Int.reduceLT, Int.reduceLE, Int.reduceAdd, Int.reduceSub, Int.reduceNeg, Int.reduceToNat, Int.reduceMul, ↓VH, f, hlen, hlt, ix, c3, eq_true hd1, c6, fa, hd2, ↓Ya m1, Ya m1]
      exact e'
    · have m' : MS H bl ((o ++ [dueF tries a.n j]) ++ t) tries last a.n v := by
        rw [List.append_assoc]
        unfold dueF
        rw [if_neg hd]
        exact m
      obtain ⟨H', r', f', e'⟩ := l_pass2 a bl ba v p0 tries last hab hav t (i + 1) H (o ++ [dueF tries a.n j]) (by simp; omega) (by simp at hl ⊢; omega) ok m' fa hba
      rw [List.append_assoc] at r'
      refine ⟨H', by rw [List.map_cons]; exact r', f', fun K => ?_⟩
      have e' := e' K
      rw [← e1] at e'
      rw [Gp]
      by_cases hd1 : j.state = 2
      · have hd2 : ¬ j.til ≤ a.n := fun h => hd ⟨hd1, h⟩
        simp (disch := first | with_reducible rfl | assumption | omega | rfl | (simp only [go_sem]; first | done | omega)) only [go_sem, ↓reduceIte, reduceCtorEq, Nat.reduceEqDiff, Nat.reduceAdd, Nat.reduceSub, Nat.reduceMul, Nat.reduceLeDiff, Nat.reduceLT, Int.reduceEq, Int.reduceLT, Int.reduceLE, Int.reduceAdd, Int.reduceSub, Int.reduceNeg, Int.reduceToNat, Int.reduceMul, ↓VH, f, hlen, hlt, ix, c3, eq_true hd1, c6, fa, hd2]
        exact e'
      · simp (disch := first | with_reducible rfl | assumption | omega | rfl | (simp only [go_sem]; first | done | omega)) only [go_sem, ↓reduceIte, reduceCtorEq, Nat.reduceEqDiff, Nat.reduceAdd, Nat.reduceSub, Nat.reduceMul, Nat.reduceLeDiff, Nat.reduceLT, Int.reduceEq, Int.reduceLT, Int.reduceLE, Int.reduceAdd, Int.reduceSub, Int.reduceNeg, Int.reduceToNat, Int.reduceMul, ↓VH, f, hlen, hlt, ix, c3, hd1]
        exact e'
section
variable {H0 H : AHeap} {bq bm bk bl : Nat} {v : Value} {tries last now : Int} {A : List Jb}
theorem does_pass_bad (a : Act) (p : PS H0 H bq bm bk bl v tries A last now A last now) (hw : a.what = 5) (h : Z4 now a.n ≠ 0) : Did H0 bl tries last (CC F.law_does [.pointer (some ⟨bq, 0, none⟩), .pointer (some ⟨bl, 0, none⟩), .agg #[.int .i64 a.what, .int .i64 a.who, .int .i64 a.n, .string a.body]] H) := by
  have w0 : ¬ a.what = 0 := by omega
  have w1 : ¬ a.what = 1 := by omega
  have w2 : ¬ a.what = 2 := by omega
  have w3 : ¬ a.what = 3 := by omega
  have w4 : ¬ a.what = 4 := by omega
  obtain ⟨H1, hH1⟩ : ∃ H1, H.push (.cells [.int .i64 a.what, .int .i64 a.who, .int .i64 a.n, .string a.body] T.law_Act true) = H1 := ⟨_, rfl⟩
  obtain ⟨s1, n1, f1⟩ := Yu hH1
  have p1 := p.still s1
  have g1 := p1.m.f
  have mq := q_QPass_bad bq bm bk A tries last now a.n H1 p1.q.r h
  refine ⟨H1, bq, bm, bk, v, A, last, now, (XM _ _ _ H (r := (.tuple #[.pointer (some ⟨bq, 0, none⟩), .bool true], H1)) ?_).trans (congrArg some (YP rfl)), p1, by omega⟩
  unfold Z4 at h mq
  by_cases h1 : a.n < 0
  · rw [if_pos (.inl h1)] at mq
    simp (maxSteps := 2000000) (disch := first | with_reducible rfl | assumption | omega | rfl | (simp only [go_sem]; first | done | omega)) only [go_sem, ↓reduceIte, reduceCtorEq, Nat.reduceEqDiff, Nat.reduceAdd, Nat.reduceSub, Nat.reduceMul, Nat.reduceLeDiff, Nat.reduceLT, Int.reduceEq, Int.reduceLT, Int.reduceLE, Int.reduceAdd, Int.reduceSub, Int.reduceNeg, Int.reduceToNat, Int.reduceMul, YJ, hH1, f1, w0, w1, w2, w3, w4, eq_true hw, h1, ↓Ya mq, Ya mq]
  by_cases h2 : 1099511627776 < a.n
  · rw [if_pos (.inr h2)] at mq
    simp (maxSteps := 2000000) (disch := first | with_reducible rfl | assumption | omega | rfl | (simp only [go_sem]; first | done | omega)) only [go_sem, ↓reduceIte, reduceCtorEq, Nat.reduceEqDiff, Nat.reduceAdd, Nat.reduceSub, Nat.reduceMul, Nat.reduceLeDiff, Nat.reduceLT, Int.reduceEq, Int.reduceLT, Int.reduceLE, Int.reduceAdd, Int.reduceSub, Int.reduceNeg, Int.reduceToNat, Int.reduceMul, YJ, hH1, f1, w0, w1, w2, w3, w4, eq_true hw, h1, h2, ↓Ya mq, Ya mq]
  rw [if_neg (by omega)] at h mq
  by_cases h3 : a.n < now
  · rw [if_pos h3] at mq
    simp (maxSteps := 2000000) (disch := first | with_reducible rfl | assumption | omega | rfl | (simp only [go_sem]; first | done | omega)) only [go_sem, ↓reduceIte, reduceCtorEq, Nat.reduceEqDiff, Nat.reduceAdd, Nat.reduceSub, Nat.reduceMul, Nat.reduceLeDiff, Nat.reduceLT, Int.reduceEq, Int.reduceLT, Int.reduceLE, Int.reduceAdd, Int.reduceSub, Int.reduceNeg, Int.reduceToNat, Int.reduceMul, YJ, hH1, f1, w0, w1, w2, w3, w4, eq_true hw, h1, h2, g1, h3, ↓Ya mq, Ya mq]
  · rw [if_neg h3] at h
    exact absurd rfl h
set_option maxHeartbeats 1000000 in
theorem does_pass (a : Act) (p : PS H0 H bq bm bk bl v tries A last now A last now) (hw : a.what = 5) (h : Z4 now a.n = 0) : Did H0 bl tries last (CC F.law_does [.pointer (some ⟨bq, 0, none⟩), .pointer (some ⟨bl, 0, none⟩), .agg #[.int .i64 a.what, .int .i64 a.who, .int .i64 a.n, .string a.body]] H) := by
  have w0 : ¬ a.what = 0 := by omega
  have w1 : ¬ a.what = 1 := by omega
  have w2 : ¬ a.what = 2 := by omega
  have w3 : ¬ a.what = 3 := by omega
  have w4 : ¬ a.what = 4 := by omega
  have hb : ¬ (a.n < 0 ∨ 1099511627776 < a.n) := fun c => by unfold Z4 at h; rw [if_pos c] at h; cases h
  have h3 : ¬ a.n < now := fun c => by unfold Z4 at h; rw [if_neg hb, if_pos c] at h; cases h
  have h1 : ¬ a.n < 0 := by omega
  have h2 : ¬ 1099511627776 < a.n := by omega
  have hAl := p.q.i.len
  obtain ⟨H1, hH1⟩ : ∃ H1, H.push (.cells [.int .i64 a.what, .int .i64 a.who, .int .i64 a.n, .string a.body] T.law_Act true) = H1 := ⟨_, rfl⟩
  obtain ⟨s1, n1, f1⟩ := Yu hH1
  have p1 := p.still s1
  have g1 := p1.m.f
  have hbl := p.m.lt
  obtain ⟨H2, hH2⟩ : ∃ H2, H1.set bl (.cells [v, .int .i64 tries, .int .i64 last, .int .i64 a.n] T.law_Model true) = H2 := ⟨_, rfl⟩
  obtain ⟨s2, n2, g2, _⟩ := YH hH2
  have hv1 : Eng.one v = true := p1.m.own.cell
  have m2 : MS H2 bl A tries last a.n v := ⟨g2, by omega, p1.m.own.keep s2 fun c hc h => p1.m.nb (h ▸ hc), p1.m.nb⟩
  have t2 : H2.f H.n = .cells [.int .i64 a.what, .int .i64 a.who, .int .i64 a.n, .string a.body] T.law_Act true := by rw [s2.f (by omega) (by omega)]; exact f1
  have p2 := p1.law s2 (fun c h => .inl (.inl h)) m2 fun c h => .inl h
  have hav : ∀ c, Ye v = some c → c ≠ H.n := fun c hc h => by have := p.m.own.blk hc; omega
  obtain ⟨H3, r3, f3, e3⟩ := l_pass2 a bl H.n v (.pointer (some ⟨bq, 0, none⟩)) tries last (by omega) hav A 0 H2 [] rfl (by simp; omega) p2.q.ok m2 t2 (by omega)
  rw [List.nil_append, ← pass_map] at r3
  have e3 : ∀ K : K, Vx (.pointer (some ⟨bq, 0, none⟩)) (.pointer (some ⟨bl, 0, none⟩)) (.pointer (some ⟨H.n, 0, none⟩)) (.int .i64 0) H2 (YB [0, 5] 3 K) = K .normal [(0, .pointer (some ⟨bq, 0, none⟩)), (5, .pointer (some ⟨H.n, 0, none⟩))] H3 := e3
  have p3 := p2.law f3 (fun c h => .inl h) r3 fun c h => .inl h
  have t3 : H3.f H.n = .cells [.int .i64 a.what, .int .i64 a.who, .int .i64 a.n, .string a.body] T.law_Act true := by
    rw [f3.f (by omega) fun h => by
      rcases h with h | h
      · omega
      · exact hav _ h rfl]
    exact t2
  obtain ⟨H4, m4, q4, u4⟩ := p3.q.pass a.n h
  have p4 := p3.queue u4 q4
  refine ⟨H4, bq, bm, bk, v, passJ A tries a.n, last, a.n, (XM _ _ _ H (r := (.tuple #[.pointer (some ⟨bq, 0, none⟩), .bool true], H4)) ?_).trans (congrArg some (YP rfl)), p4, by omega⟩
  simp (maxSteps := 2000000) (disch := first | with_reducible rfl | assumption | omega | rfl | (simp only [go_sem]; first | done | omega)) only [go_sem, ↓reduceIte, reduceCtorEq, Nat.reduceEqDiff, Nat.reduceAdd, Nat.reduceSub, Nat.reduceMul, Nat.reduceLeDiff, Nat.reduceLT, Int.reduceEq, Int.reduceLT, Int.reduceLE, Int.reduceAdd, Int.reduceSub, Int.reduceNeg, Int.reduceToNat, Int.reduceMul, YJ, hH1, f1, w0, w1, w2, w3, w4, eq_true hw, h1, h2, g1, h3, hH2, e3, t3, ↓Ya m4, Ya m4]
theorem q_does (a : Act) (p : PS H0 H bq bm bk bl v tries A last now A last now) (hl : last < 900) : Did H0 bl tries last (CC F.law_does [.pointer (some ⟨bq, 0, none⟩), .pointer (some ⟨bl, 0, none⟩), .agg #[.int .i64 a.what, .int .i64 a.who, .int .i64 a.n, .string a.body]] H) := by
  by_cases w0 : a.what = 0
  · by_cases h : U6 a.n a.body = 0
    · exact does_put a p hl w0 h
    · exact does_put_bad a p w0 h
  by_cases w1 : a.what = 1
  · by_cases h : UH A now a.who a.n = 0
    · exact does_take a p w1 h
    · exact does_take_bad a p w1 h
  by_cases w2 : a.what = 2
  · by_cases h : Y7 A a.who a.n = 0
    · exact does_finish a p w2 h
    · exact does_finish_bad a p w2 h
  by_cases w3 : a.what = 3
  · by_cases h : Y7 A a.who a.n = 0
    · exact does_back a p w3 h
    · exact does_back_bad a p w3 h
  by_cases w4 : a.what = 4
  · by_cases h : QZ A a.n = 0
    · exact does_revive a p w4 h
    · exact does_revive_bad a p w4 h
  by_cases w5 : a.what = 5
  · by_cases h : Z4 now a.n = 0
    · exact does_pass a p w5 h
    · exact does_pass_bad a p w5 h
  exact does_copy a p hl w0 w1 w2 w3 w4 w5
end
theorem l_plays (L : List Act) (hL : L.length ≤ 36) (w : Value) (H0 : AHeap) (hr : Rd EAct H0 w L) (bl : Nat) (tries : Int) : ∀ (t : List Act) (i : Nat) (H : AHeap) (bq bm bk : Nat) (v : Value) (A : List Jb) (last now : Int), L.drop i = t → last ≤ i →
    PS H0 H bq bm bk bl v tries A last now A last now → ∃ H', Ok H' ∧ ∀ K : K, XL w (.pointer (some ⟨bq, 0, none⟩)) (.pointer (some ⟨bl, 0, none⟩)) (.int .i64 (i : Int)) H (YB [] 0 K) = K .normal [] H'
  | [], i, H, bq, bm, bk, v, A, last, now, hx, hli, p => by
    have h : L.length ≤ i := List.drop_eq_nil_iff.1 hx
    have hlt : ¬ (i : Int) < (L.length : Int) := by omega
    have hlen := (hr.still p.st).lenS
    refine ⟨H, p.q.ok, fun K => ?_⟩
    rw [ZC]
    simp (disch := first | with_reducible rfl | assumption | omega | rfl | (simp only [go_sem]; first | done | omega)) only [go_sem, ↓reduceIte, reduceCtorEq, Nat.reduceEqDiff, Nat.reduceAdd, Nat.reduceSub, Nat.reduceMul, Nat.reduceLeDiff, Nat.reduceLT, Int.reduceEq, Int.reduceLT, Int.reduceLE, Int.reduceAdd, Int.reduceSub, Int.reduceNeg, Int.reduceToNat, Int.reduceMul, ↓Vw, hlen, hlt]
  | a :: t, i, H, bq, bm, bk, v, A, last, now, hx, hli, p => by
    obtain ⟨h, hxa, hx'⟩ := Xt hx
    have hlt : (i : Int) < (L.length : Int) := by omega
    have hrH := hr.still p.st
    have hlen := hrH.lenS
    obtain ⟨b1, o1, ix, l1, cb⟩ := rd_act hrH h
    rw [hxa] at cb
    obtain ⟨H1, bq', bm', bk', v', A', last', now', m1, p1, hl1⟩ := q_does a p (by omega)
    have ma := q_alike bq' bm' bk' bl A' tries last' now' v' H1 p1.q p1.m
    have e1 : ((i : Int) + 1) = ((i + 1 : Nat) : Int) := by omega
    obtain ⟨H', ok', e'⟩ := l_plays L hL w H0 hr bl tries t (i + 1) H1 bq' bm' bk' v' A' last' now' hx' (by omega) p1
    refine ⟨H', ok', fun K => ?_⟩
    have e' := e' K
    rw [← e1] at e'
    rw [ZC]
    simp (disch := first | with_reducible rfl | assumption | omega | rfl | (simp only [go_sem]; first | done | omega)) only [go_sem, ↓reduceIte, reduceCtorEq, Nat.reduceEqDiff, Nat.reduceAdd, Nat.reduceSub, Nat.reduceMul, Nat.reduceLeDiff, Nat.reduceLT, Int.reduceEq, Int.reduceLT, Int.reduceLE, Int.reduceAdd, Int.reduceSub, Int.reduceNeg, Int.reduceToNat, Int.reduceMul, ↓Vw, hlen, hlt, ix, cb, ↓Ya m1, Ya m1, ↓Ya ma, Ya ma]
    exact e'
theorem q_JobsPlays (tries : Int) (L : List Act) (w : Value) (H : AHeap) (ok : Ok H) (hr : Rd EAct H w L) : ∃ H', CC F.law_JobsPlays [.int .i64 tries, w] H = some (.bool true, H') := by
  have ms : CC F.law_small [w, .int .i64 36] H = some (.bool (smallA L 36), H) := q_small L 36 (by decide) w H hr
  have kn := k_known H ok
  cases hs : smallA L 36 with
  | false =>
    rw [hs] at ms
    refine any_of (H1 := H) (QQ _ _ H ?_)
    simp (disch := first | with_reducible rfl | assumption | omega | rfl | (simp only [go_sem]; first | done | omega)) only [go_sem, ↓reduceIte, reduceCtorEq, Nat.reduceEqDiff, Nat.reduceAdd, Nat.reduceSub, Nat.reduceMul, Nat.reduceLeDiff, Nat.reduceLT, Int.reduceEq, Int.reduceLT, Int.reduceLE, Int.reduceAdd, Int.reduceSub, Int.reduceNeg, Int.reduceToNat, Int.reduceMul, ↓XX, ↓Ya ms, Ya ms, ↓Ya kn, Ya kn]
  | true =>
  rw [hs] at ms
  have hL : L.length ≤ 36 := by
    unfold smallA at hs
    simp only [Bool.and_eq_true, decide_eq_true_eq] at hs
    exact hs.2
  by_cases hb : tries < 1 ∨ 100 < tries
  · have mn := q_QNew_bad tries H hb
    refine any_of (H1 := H) (QQ _ _ H ?_)
    by_cases h1 : tries < 1
    · simp (disch := first | with_reducible rfl | assumption | omega | rfl | (simp only [go_sem]; first | done | omega)) only [go_sem, ↓reduceIte, reduceCtorEq, Nat.reduceEqDiff, Nat.reduceAdd, Nat.reduceSub, Nat.reduceMul, Nat.reduceLeDiff, Nat.reduceLT, Int.reduceEq, Int.reduceLT, Int.reduceLE, Int.reduceAdd, Int.reduceSub, Int.reduceNeg, Int.reduceToNat, Int.reduceMul, ↓XX, ↓Ya ms, Ya ms, ↓Ya mn, Ya mn, h1, ↓Ya kn, Ya kn]
    · have h2 : 100 < tries := by omega
      simp (disch := first | with_reducible rfl | assumption | omega | rfl | (simp only [go_sem]; first | done | omega)) only [go_sem, ↓reduceIte, reduceCtorEq, Nat.reduceEqDiff, Nat.reduceAdd, Nat.reduceSub, Nat.reduceMul, Nat.reduceLeDiff, Nat.reduceLT, Int.reduceEq, Int.reduceLT, Int.reduceLE, Int.reduceAdd, Int.reduceSub, Int.reduceNeg, Int.reduceToNat, Int.reduceMul, ↓XX, ↓Ya ms, Ya ms, ↓Ya mn, Ya mn, h1, h2, ↓Ya kn, Ya kn]
  have h1 : ¬ tries < 1 := by omega
  have h2 : ¬ 100 < tries := by omega
  obtain ⟨bq, bm, bk, H1, m1, r1, i1, s1, new1⟩ := q_QNew tries H (by omega)
  have q1 : QS H1 bq bm bk [] tries 0 0 := ⟨ok.fr s1, r1, i1⟩
  obtain ⟨H2, hH2⟩ : ∃ H2, H1.push (.cells [.slice none 0 0, .int .i64 tries, .int .i64 0, .int .i64 0] T.law_Model true) = H2 := ⟨_, rfl⟩
  obtain ⟨s2, n2, f2⟩ := Yu hH2
  have m2 : MS H2 H1.n [] tries 0 0 (.slice none 0 0) := ⟨f2, by omega, .inl ⟨rfl, rfl⟩, fun h => by cases h⟩
  have q2 := q1.still s2
  have n1 := s1.n
  have p2 : PS H H2 bq bm bk H1.n (.slice none 0 0) tries [] 0 0 [] 0 0 := by
    refine ⟨q2, m2, fun c h1 h2 => ?_, s1.trans s2, fun c h => new1 c (h.still r1.mdl s2), fun c h => ?_⟩
    · have := r1.blk (h1.still r1.mdl s2)
      rcases h2 with h2 | h2
      · omega
      · cases h2
    · rcases h with h | h
      · omega
      · cases h
  have ma := q_alike bq bm bk H1.n [] tries 0 0 _ H2 q2 m2
  obtain ⟨H3, ok3, e3⟩ := l_plays L hL w H hr H1.n tries L 0 H2 bq bm bk _ [] 0 0 rfl (by decide) p2
  have e3 : ∀ K : K, XL w (.pointer (some ⟨bq, 0, none⟩)) (.pointer (some ⟨H1.n, 0, none⟩)) (.int .i64 0) H2 (YB [] 0 K) = K .normal [] H3 := e3
  have kn3 := k_known H3 ok3
  refine any_of (H1 := H3) (QQ _ _ H ?_)
  simp (disch := first | with_reducible rfl | assumption | omega | rfl | (simp only [go_sem]; first | done | omega)) only [go_sem, ↓reduceIte, reduceCtorEq, Nat.reduceEqDiff, Nat.reduceAdd, Nat.reduceSub, Nat.reduceMul, Nat.reduceLeDiff, Nat.reduceLT, Int.reduceEq, Int.reduceLT, Int.reduceLE, Int.reduceAdd, Int.reduceSub, Int.reduceNeg, Int.reduceToNat, Int.reduceMul, ↓XX, ↓Ya ms, Ya ms, ↓Ya m1, Ya m1, h1, h2, hH2, ↓Ya ma, Ya ma, e3, ↓Ya kn3, Ya kn3]
theorem run_JobsPlays (W : World) (tries : Int) (_ : (Lit.int .i64 tries).wf = true) (w : Value) (L : List Act) (r : RdS EAct T.law_Act (WN W) w L) (_ : ∀ x, x ∈ L → -9223372036854775808 ≤ x.n ∧ x.n ≤ 9223372036854775807) (_ : L.length ≤ maxLen) :
    ∃ k H', Zq Tryz.prog prims1 hints k F.law_JobsPlays [.int .i64 tries, w] (WN W) = some (.bool true, H') := by
  obtain ⟨H', h⟩ := q_JobsPlays tries L w (WN W) (fun _ => Nat.zero_lt_one) r.1
  obtain ⟨k, h⟩ := D_run h
  exact ⟨k, _, h⟩
end Go.Proofs.YtmiinbhnfojnbaaGreatDoor

namespace Go.Proofs.YtmiinbhnfojnbaaGreatDoor.jobsPlays
open Go Go.ChangeShapes Go.WideShapes Go.ChangeAt Go.RowKit Go.Shelf Go.Lib
open Go.ChangeMaps (open_string shut_string)
theorem own : ownKnob Tryz.prog.godebug = none := by kernel_rfl
theorem laidOut : laidOutB Tryz.prog = true := by kernel_rfl
theorem glob (W : World) (hsh : W.ShapedOpen Tryz.prog) (hl : laidMetH Tryz.prog Rows.jobsPlaysRow.laid W) : Eng.Glob W.heap.size W := fun g hg => by
  rw [MakeChecks.laidMetH_plain _ _ _ (by kernel_rfl)] at hl
  simp only [Eng.globs, List.mem_cons, List.not_mem_nil, or_false] at hg
  rcases hg with rfl
  · obtain ⟨m, hm⟩ := Go.Proofs.cell_of_shapedOpen_int (g := 0) (zero := #[.int .i64 0]) (t := 3) hsh (of_decide_eq_true (by kernel_rfl)) (by kernel_rfl) rfl (by kernel_rfl) (by kernel_rfl) Tryz.underlying3
    obtain ⟨cs, e, fr, h1, _, _⟩ := Eng.cell_abs hm
    rw [Eng.cell_cellO] at hm
    exact ⟨(Array.getElem?_eq_some_iff.1 h1).1, m, hm⟩
set_option maxRecDepth 100000 in
theorem lifted (os : Os) (started : os.Started) (H : Type) (enc : TypeId × Value → H) :
    ReturnsInHanded {} Tryz.checked os 3 .any (fun w args => (Rows.jobsPlaysSpec.pre enc Tryz.prog Tryz.f3 [] false w args ∧ laidMetH Tryz.prog Rows.jobsPlaysRow.laid w) ∧ sizedMet enc Tryz.prog Tryz.f3 (OpenSpec.ofChange Rows.jobsPlaysSpec) false w args)
      (Rows.jobsPlaysSpec.post enc Tryz.prog Tryz.f3 false true false false) := by
  refine Eng.wrapX (C := Tryz.checked) (X := fun w _ => laidMetH Tryz.prog Rows.jobsPlaysRow.laid w) (fun _ _ _ hh h => h.of_heap hh) own started (by kernel_rfl) Tryz.func3
    (ChangeSpec.witness_shaped (enc := enc) (C := Tryz.checked) (os := os) (X := fun w _ => laidMetH Tryz.prog Rows.jobsPlaysRow.laid w) false (World.laidAll Tryz.prog os Rows.jobsPlaysRow.laid) #[.int .i64 0, .slice none 0 0] 8 (World.laidAll_os _ _ _)
      (World.shaped_of_ZipB (by kernel_rfl) (by kernel_rfl)) (by kernel_rfl) (by kernel_rfl) (by kernel_rfl)
      (by rw [MakeChecks.laidMetH_plain _ _ _ (by kernel_rfl)]; exact laidMet_laidAll _ (by kernel_rfl) (by kernel_rfl))) ?_
  intro W base args ds gs before hval0 hW hsz0 hsh hlx
  have hsz : (DataW.weightsEach Tryz.prog (Tryz.f3.params.toList ++ Rows.jobsPlaysSpec.plain.varTypes Tryz.prog) (ds ++ gs)).all (· ≤ reachBytes) = true := hsz0
  have hval : ∀ (j : Nat) t v, Tryz.f3.params[j]? = some t → args[j]? = some v → Value.okWide Tryz.prog W .any base t v := hval0
  have hW' := hW
  obtain ⟨p, q, hA0, hV, rfl, hfz, hnd⟩ := hW
  have hA : DataW.TrodAll enc Tryz.prog W 0 (fun _ => true) true Tryz.f3.params.toList args.toList ds p := hA0
  rw [Tryz.params3] at hA hval hsz
  obtain ⟨v0, vs0, d0, ds0, p0, q0, hargs, rfl, rfl, h0, r0⟩ := trodAll_cons hA
  obtain ⟨v1, vs1, d1, ds1, p1, q1, rfl, rfl, rfl, h1, r1⟩ := trodAll_cons r0
  obtain ⟨rfl, rfl, rfl⟩ := trodAll_nil r1
  obtain rfl : args = #[v0, v1] := by cases args; simp_all
  obtain ⟨rfl, rfl⟩ := trodVars_none hV
  obtain ⟨a0, rfl, rfl, rfl, w0⟩ := open_int Tryz.underlying3 (hval 0 3 v0 rfl rfl) h0
  have k1 := h1
  have lt1 : ∀ x ∈ p1, x.block < W.heap.size := by obtain ⟨m, hm⟩ := k1; exact DataW.trod_lt m _ _ _ hm
  obtain ⟨l1, rd1, all1, len1⟩ := Eng.open_rd2 (t := 22) (e' := 37) Tryz.underlying22 (by kernel_rfl) (fun hp cs n y h hl => decAct hp h hl) (hval 1 22 v1 rfl rfl) k1
  refine (Eng.law_calls2 (args := #[.int .i64 a0, v1]) prims1_ok mixed (glob W hsh hlx) (run_JobsPlays W a0 w0 (Eng.convA2 W.heap.size v1) l1 rd1 all1 len1)).mono fun e W' ⟨he, bel⟩ => ?_
  subst he
  exact ⟨_, rfl, _, _, _, [], _, [], hW', trodAll_mk1 (shut_bool Tryz.underlying4 _), (trodAll_cons_mk (shut_int Tryz.underlying3 w0) (trodAll_cons_mk (Below.trod laidOut (by kernel_rfl) (of_decide_eq_true (by kernel_rfl)) k1 bel lt1) trodAll_mk0)), rfl, bel.frame _, fun h => by cases h⟩
theorem over : Rows.jobsPlaysRow.holds Tryz.pinned (OpenSpec.ofChange Rows.jobsPlaysSpec) :=
  OpenClaim.holds_of_wide 3 Tryz.f3 rfl rfl rfl rfl rfl rfl rfl ⟨rfl, rfl, rfl, rfl, rfl⟩ rfl rfl rfl rfl rfl (by kernel_rfl) Tryz.func3 (by kernel_rfl)
    (of_decide_eq_true (by kernel_rfl)) (by unfold Func.isWrapper; first | (rw [if_pos (by decide +kernel)]; kernel_rfl) | (rw [if_neg (by decide +kernel)]; exact ⟨rfl, rfl⟩))
    (fun os started H enc _ => lifted os started H enc)
theorem proved : Rows.JobsPlaysCardSaid :=
  Claim7.holds_tied_plain_at .later [] [.data, .pinned] true (true, "56ac2231762267c51a4440e2382f9db09d06ef2f9bb3212a0d22e6106ed2d7bb") true over (fun _ h => by cases h) (by kernel_rfl) (fun _ h => by cases h) jobsPlays_row_tie rfl ⟨rfl, rfl⟩ (by kernel_rfl) rfl
    (fun f fn hf hfn => by
      obtain rfl : f = 3 := Option.some.inj ((show Tryz.prog.funcNamed "ticketline/ticketlinelaw46.JobsPlays" = some 3 by kernel_rfl).symm.trans hf) |>.symm
      obtain rfl : fn = Tryz.f3 := (Option.some.inj (Tryz.func3.symm.trans hfn)).symm
      exact ⟨by kernel_rfl, fun j t ht => by
        rw [Tryz.params3] at ht
        have hm : t ∈ [3, 22] := by simpa using Array.mem_of_getElem? ht
        have hall : ([3, 22].all fun u => !Tryz.prog.wantsStandIn u) = true := by kernel_rfl
        exact (show Tryz.prog.wantsStandIn t = false by simpa using List.all_eq_true.1 hall t hm)⟩)
    (by kernel_rfl)
#print axioms proved
end Go.Proofs.YtmiinbhnfojnbaaGreatDoor.jobsPlays
namespace Go.Proofs.YtmiinbhnfojnbaaGreatDoor
theorem jobsPlays_card : Rows.JobsPlaysCardSaid := jobsPlays.proved
end Go.Proofs.YtmiinbhnfojnbaaGreatDoor
