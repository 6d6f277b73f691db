/-
  4 texts in one (merge.py): Ge Eng37 Eng33 LawIdsTakes.
  Conditions: none. By an AI agent.
-/
import Derived.Test.YtlfpjndbpclnnaaDoorLawIdsTakesQ1
import Derived.HandedShaped
import Derived.Shelf.Vars
import Derived.Lay
import Derived.PinnedBridge
import Derived.Test.YtlfpjndbpclnnaaDoorRows
import Derived.Test.YtlfpjndbpclnnaaDoorCards
import Derived.Test.YtlfpjndbpclnnaaDoorTie
import Derived.WalkKit
import Derived.ProofKit
import Derived.OpenShut
import Derived.ShutString
import Derived.ChangeOld
import Derived.Below
import Derived.SizedLaws
import Derived.ChangeArms
import Derived.Carry
import Derived.LaidOnce
import Derived.SevenTiedAt
import Derived.Stop.LaidErr

/-
  Chapter 47: IdsTakes.
  Conditions: none. By an AI agent.
-/
set_option maxRecDepth 10000
set_option linter.unusedSimpArgs false
set_option linter.unusedVariables false
namespace Go.Proofs.YtlfpjndbpclnnaaDoor
open Go Eng

/-! ### two maps -/
structure W2 (H0 H : AHeap) (b1 b2 : Nat) (M1 M2 : List Pr) : Prop where
  r1 : Fresh H0 H b1 M1
  r2 : Fresh H0 H b2 M2
  dis : ∀ c, MB H b1 c → ¬ MB H b2 c
section
variable {H0 H H' : AHeap} {b1 b2 : Nat} {M1 M2 M' : List Pr}
theorem W2.swap (w : W2 H0 H b1 b2 M1 M2) : W2 H0 H b2 b1 M2 M1 := ⟨w.r2, w.r1, fun c h1 h2 => w.dis c h2 h1⟩
theorem W2.step (w : W2 H0 H b1 b2 M1 M2) (fr' : Fresh H0 H' b1 M') (u : Up H b1 H') : W2 H0 H' b1 b2 M' M2 := by
  obtain ⟨m2, hm, hd⟩ := sep w.r2.mdl w.dis u
  exact ⟨fr', ⟨w.r2.still.then u.fr fun b hb h => by have := w.r1.new b h; omega, w.r2.ok.fr u.fr, m2, fun c hc => w.r2.new c (hm c hc), w.r2.srt, w.r2.len, w.r2.vok⟩, hd⟩
theorem W2.by {S : Nat → Prop} (w : W2 H0 H b1 b2 M1 M2) (f : Fr S H H') (hS : ∀ b, S b → H.n ≤ b) : W2 H0 H' b1 b2 M1 M2 := by
  have h1 : ∀ c, MB H b1 c → ¬ S c := fun c hc h => by have := w.r1.mdl.blk hc; have := hS c h; omega
  have h2 : ∀ c, MB H b2 c → ¬ S c := fun c hc h => by have := w.r2.mdl.blk hc; have := hS c h; omega
  have h0 : ∀ b, b < H0.n → ¬ S b := fun b hb h => by have := w.r1.still.n; have := hS b h; omega
  exact ⟨w.r1.by f h1 h0, w.r2.by f h2 h0, fun c hc hc2 => w.dis c ((mb_same w.r1.mdl f h1).2 c hc) ((mb_same w.r2.mdl f h2).2 c hc2)⟩
end

theorem q_takes0 (s : ByteArray) (n : Int) (H : AHeap) : CC F.law_takes [.pointer none, .string s, .int .i64 n, .agg #[.int .i64 0, .int .i64 0], .int .i64 1] H = some (.bool true, H) := by
  obtain ⟨H1, hH1⟩ : ∃ H1, H.push (.cells [.int .i64 0, .int .i64 0] T.api_Block true) = H1 := ⟨_, rfl⟩
  obtain ⟨s1, n1, f1⟩ := newBlk 0 0 hH1
  have m1 := q_Take0 s n H1
  obtain ⟨H2, hH2⟩ : ∃ H2, H1.push (.cells [.int .i64 0, .int .i64 0] T.api_Block true) = H2 := ⟨_, rfl⟩
  obtain ⟨s2, n2, f2⟩ := newBlk 0 0 hH2
  obtain ⟨H3, hH3⟩ : ∃ H3, H2.set H1.n (.cells [.int .i64 0, .int .i64 0] T.api_Block true) = H3 := ⟨_, rfl⟩
  have f3 : H3.f H1.n = .cells [.int .i64 0, .int .i64 0] T.api_Block true := by rw [← hH3]; exact set_f_eq
  have f3' : H3.f H.n = .cells [.int .i64 0, .int .i64 0] T.api_Block true := by
    rw [← hH3, H2.set_other _ (by omega), s2.f (by omega) fun h => h]; exact f1
  apply pure_of _ (d_law_takes _ _ _ _ _ H) rfl
  rotate_left 2
  · simp (disch := first | with_reducible rfl | assumption | omega | rfl | (simp only [go_sem]; first | done | omega)) only [go_sem, ↓reduceIte, reduceCtorEq, Nat.reduceEqDiff, Nat.reduceAdd, Nat.reduceSub, Nat.reduceMul, Nat.reduceDiv, Nat.reduceMod, Nat.reduceLeDiff, Nat.reduceLT, Nat.reduceBEq, Int.reduceEq, Int.reduceBEq, Int.reduceBNe, Int.reduceLT, Int.reduceLE, Int.reduceAdd, Int.reduceSub, Int.reduceNeg, Int.reduceToNat, Int.reducePow, Nat.reducePow, Int.reduceMul, Int.reduceDiv, ↓s_law_takes, hH1, ↓enterK_eq m1, enterK_eq m1, hH2, f2, hH3, f3, f3', blk_eq]
    rfl
  · rw [← hH3]; exact Fr.set (s1.trans s2) _ _ fun h => by omega

set_option maxHeartbeats 1000000 in
theorem q_takes {H0 : AHeap} (bm : Nat) (M : List Pr) (s : ByteArray) (n : Int) (H : AHeap) (fr : Fresh H0 H bm M) (hM : M.length < 20000) :
    ∃ H', CC F.law_takes [.pointer (some ⟨bm, 0, none⟩), .string s, .int .i64 n, .agg #[.int .i64 (tk M s n).1.1, .int .i64 (tk M s n).1.2], .int .i64 (tk M s n).2.1] H = some (.bool true, H') ∧ Fresh H0 H' bm (tk M s n).2.2 ∧ Up H bm H' := by
  obtain ⟨H1, hH1⟩ : ∃ H1, H.push (.cells [.int .i64 (tk M s n).1.1, .int .i64 (tk M s n).1.2] T.api_Block true) = H1 := ⟨_, rfl⟩
  obtain ⟨s1, n1, f1⟩ := newBlk _ _ hH1
  obtain ⟨H2, m2, fr2, u2⟩ := q_Take bm M s n H1 (fr.to s1) hM
  unfold tkV at m2
  generalize tk M s n = x at m2 fr2 f1 hH1 ⊢
  obtain ⟨⟨a, b⟩, e, M'⟩ := x
  simp only at m2 fr2 f1 hH1 ⊢
  have f2 : H2.f H.n = .cells [.int .i64 a, .int .i64 b] T.api_Block true := by
    rw [u2.fr.f (by omega) fun h => by have := fr.mdl.blk (MBT_still fr.mdl s1 h); omega]
    exact f1
  have l2 : H.n < H2.n := by have := u2.fr.n; omega
  obtain ⟨H3, hH3⟩ : ∃ H3, H2.push (.cells [.int .i64 0, .int .i64 0] T.api_Block true) = H3 := ⟨_, rfl⟩
  obtain ⟨s3, n3, f3⟩ := newBlk 0 0 hH3
  obtain ⟨H4, hH4⟩ : ∃ H4, H3.set H2.n (.cells [.int .i64 a, .int .i64 b] T.api_Block true) = H4 := ⟨_, rfl⟩
  have f4 : H4.f H2.n = .cells [.int .i64 a, .int .i64 b] T.api_Block true := by rw [← hH4]; exact set_f_eq
  have f4' : H4.f H.n = .cells [.int .i64 a, .int .i64 b] T.api_Block true := by
    rw [← hH4, H3.set_other _ (by omega), s3.f l2 fun h => h]; exact f2
  have fs : Fr (fun b => b = H2.n) H2 H4 := by rw [← hH4]; exact Fr.set s3.still _ _ fun _ => rfl
  have u2' := UpT.pre fr.mdl s1 u2
  obtain ⟨fr4, u4⟩ := Up.post u2' fr2 fs (fun b hb => by omega) fr.still.n fun c hc h => by have := fr2.mdl.blk hc; omega
  obtain ⟨H5, t1, t2, t3⟩ := fr.tidy (v := .bool true) fr4 u4
  refine ⟨H5, (d_law_takes _ _ _ _ _ H (r := (.bool true, H4)) ?_).trans (congrArg some t1), t2, t3⟩
  simp (disch := first | with_reducible rfl | assumption | omega | rfl | (simp only [go_sem]; first | done | omega)) only [go_sem, ↓reduceIte, reduceCtorEq, Nat.reduceEqDiff, Nat.reduceAdd, Nat.reduceSub, Nat.reduceMul, Nat.reduceDiv, Nat.reduceMod, Nat.reduceLeDiff, Nat.reduceLT, Nat.reduceBEq, Int.reduceEq, Int.reduceBEq, Int.reduceBNe, Int.reduceLT, Int.reduceLE, Int.reduceAdd, Int.reduceSub, Int.reduceNeg, Int.reduceToNat, Int.reducePow, Nat.reducePow, Int.reduceMul, Int.reduceDiv, ↓s_law_takes, hH1, ↓enterK_eq m2, enterK_eq m2, hH3, f3, hH4, f4, f4', blk_eq]

/-! ### the law -/
theorem l_it {H0 : AHeap} (s : ByteArray) (n : Int) (l : List Pr) (v : Value) (hr : Rd EPr H0 v l) (hl : l.length ≤ 8) (b1 b2 : Nat) : ∀ (t : List Pr) (i : Nat) (H : AHeap) (m : List Pr), l.drop i = t → W2 H0 H b1 b2 m m →
    (∃ H', ∀ K : K, l_law_IdsTakes_0 v (.string s) (.int .i64 n) (.pointer (some ⟨b1, 0, none⟩)) (.pointer (some ⟨b2, 0, none⟩)) (.int .i64 (i : Int)) H (blkK [1, 2, 7, 8] 0 K) = K .ret [(6, .bool true)] H') ∨
    (∃ H', W2 H0 H' b1 b2 (t.foldl (fun m a => (putE m a).2) m) (t.foldl (fun m a => (putE m a).2) m) ∧ ∀ K : K, l_law_IdsTakes_0 v (.string s) (.int .i64 n) (.pointer (some ⟨b1, 0, none⟩)) (.pointer (some ⟨b2, 0, none⟩)) (.int .i64 (i : Int)) H (blkK [1, 2, 7, 8] 0 K) = K .normal [(1, .string s), (2, .int .i64 n), (7, .pointer (some ⟨b1, 0, none⟩)), (8, .pointer (some ⟨b2, 0, none⟩))] H')
  | [], i, H, m, hx, w => by
    have h : l.length ≤ i := List.drop_eq_nil_iff.1 hx
    have hlt : ¬ (i : Int) < (l.length : Int) := by omega
    have hlen := hr.lenS
    refine .inr ⟨H, w, fun K => ?_⟩
    rw [r_law_IdsTakes_0]
    simp (disch := first | with_reducible rfl | assumption | omega | rfl | (simp only [go_sem]; first | done | omega)) only [go_sem, ↓reduceIte, reduceCtorEq, Nat.reduceEqDiff, Nat.reduceAdd, Nat.reduceSub, Nat.reduceMul, Nat.reduceDiv, Nat.reduceMod, Nat.reduceLeDiff, Nat.reduceLT, Nat.reduceBEq, Int.reduceEq, Int.reduceBEq, Int.reduceBNe, Int.reduceLT, Int.reduceLE, Int.reduceAdd, Int.reduceSub, Int.reduceNeg, Int.reduceToNat, Int.reducePow, Nat.reducePow, Int.reduceMul, Int.reduceDiv, ↓s_law_IdsTakes_b0, hlen, hlt]
  | a :: t, i, H, m, hx, w => by
    obtain ⟨hi, hxa, hx'⟩ := drop_cons hx
    have hlt : (i : Int) < (l.length : Int) := by omega
    have hlen := hr.lenS
    have rdF : ∀ H', Still H0 H' → ∃ b o, ixS 2 v (.int .i64 (i : Int)) = some (.pointer (some ⟨b, o, none⟩)) ∧ cellB (H'.f b) o = some (.string a.key) ∧ cellB (H'.f b) (o + 1) = some (.string a.value) := fun H' st => by
      obtain ⟨b, o, h1, h2, h3, _⟩ := rd_pair (hr.still st) hi (iv := (i : Int)) rfl
      rw [hxa] at h2 h3
      exact ⟨b, o, h1, h2, h3⟩
    obtain ⟨b, o, ix, c0, c1⟩ := rdF H w.r1.still
    by_cases g1 : 30 < ((bl a.key).length : Int)
    · refine .inl ⟨H, fun K => ?_⟩
      rw [r_law_IdsTakes_0]
      simp (disch := first | with_reducible rfl | assumption | omega | rfl | (simp only [go_sem]; first | done | omega)) only [go_sem, ↓reduceIte, reduceCtorEq, Nat.reduceEqDiff, Nat.reduceAdd, Nat.reduceSub, Nat.reduceMul, Nat.reduceDiv, Nat.reduceMod, Nat.reduceLeDiff, Nat.reduceLT, Nat.reduceBEq, Int.reduceEq, Int.reduceBEq, Int.reduceBNe, Int.reduceLT, Int.reduceLE, Int.reduceAdd, Int.reduceSub, Int.reduceNeg, Int.reduceToNat, Int.reducePow, Nat.reducePow, Int.reduceMul, Int.reduceDiv, ↓s_law_IdsTakes_b0, hlen, hlt, ix, c0, g1]
    · by_cases g2 : 44 < ((bl a.value).length : Int)
      · refine .inl ⟨H, fun K => ?_⟩
        rw [r_law_IdsTakes_0]
        simp (disch := first | with_reducible rfl | assumption | omega | rfl | (simp only [go_sem]; first | done | omega)) only [go_sem, ↓reduceIte, reduceCtorEq, Nat.reduceEqDiff, Nat.reduceAdd, Nat.reduceSub, Nat.reduceMul, Nat.reduceDiv, Nat.reduceMod, Nat.reduceLeDiff, Nat.reduceLT, Nat.reduceBEq, Int.reduceEq, Int.reduceBEq, Int.reduceBNe, Int.reduceLT, Int.reduceLE, Int.reduceAdd, Int.reduceSub, Int.reduceNeg, Int.reduceToNat, Int.reducePow, Nat.reducePow, Int.reduceMul, Int.reduceDiv, ↓s_law_IdsTakes_b0, hlen, hlt, ix, c0, c1, g1, g2]
      · obtain ⟨H1, m1, fr1, u1⟩ := w.r1.putU a
        have w1 := w.step fr1 u1
        obtain ⟨b', o', ix', d0, d1⟩ := rdF H1 w1.r1.still
        rw [ix] at ix'
        cases ix'
        obtain ⟨H2, m2, fr2, u2⟩ := w1.r2.putU a
        have w2 := (w1.swap.step fr2 u2).swap
        rcases l_it s n l v hr hl b1 b2 t (i + 1) H2 _ hx' w2 with ⟨H', ih⟩ | ⟨H', w', ih⟩
        · refine .inl ⟨H', fun K => ?_⟩
          have ih := ih K
          rw [Int.natCast_add] at ih
          rw [← ih, r_law_IdsTakes_0]
          simp (disch := first | with_reducible rfl | assumption | omega | rfl | (simp only [go_sem]; first | done | omega)) only [go_sem, ↓reduceIte, reduceCtorEq, Nat.reduceEqDiff, Nat.reduceAdd, Nat.reduceSub, Nat.reduceMul, Nat.reduceDiv, Nat.reduceMod, Nat.reduceLeDiff, Nat.reduceLT, Nat.reduceBEq, Int.reduceEq, Int.reduceBEq, Int.reduceBNe, Int.reduceLT, Int.reduceLE, Int.reduceAdd, Int.reduceSub, Int.reduceNeg, Int.reduceToNat, Int.reducePow, Nat.reducePow, Int.reduceMul, Int.reduceDiv, ↓s_law_IdsTakes_b0, hlen, hlt, ix, c0, c1, g1, g2, ↓enterK_eq m1, enterK_eq m1, d0, d1, ↓enterK_eq m2, enterK_eq m2]
        · refine .inr ⟨H', w', fun K => ?_⟩
          have ih := ih K
          rw [Int.natCast_add] at ih
          rw [← ih, r_law_IdsTakes_0]
          simp (disch := first | with_reducible rfl | assumption | omega | rfl | (simp only [go_sem]; first | done | omega)) only [go_sem, ↓reduceIte, reduceCtorEq, Nat.reduceEqDiff, Nat.reduceAdd, Nat.reduceSub, Nat.reduceMul, Nat.reduceDiv, Nat.reduceMod, Nat.reduceLeDiff, Nat.reduceLT, Nat.reduceBEq, Int.reduceEq, Int.reduceBEq, Int.reduceBNe, Int.reduceLT, Int.reduceLE, Int.reduceAdd, Int.reduceSub, Int.reduceNeg, Int.reduceToNat, Int.reducePow, Nat.reducePow, Int.reduceMul, Int.reduceDiv, ↓s_law_IdsTakes_b0, hlen, hlt, ix, c0, c1, g1, g2, ↓enterK_eq m1, enterK_eq m1, d0, d1, ↓enterK_eq m2, enterK_eq m2]

theorem fold_len : ∀ (x m : List Pr), (x.foldl (fun m a => (putE m a).2) m).length ≤ m.length + x.length
  | [], m => by simp
  | a :: x, m => by
    have h1 := fold_len x (putE m a).2
    have h2 : (putE m a).2.length ≤ m.length + 1 := by
      unfold putE
      split
      · unfold putP
        split
        · simp
        · split
          · simp
          · have hp := posP_le m a.key
            simp; omega
      · simp
    simp only [List.foldl_cons, List.length_cons]
    omega

set_option maxHeartbeats 2000000 in
theorem q_IdsTakes (l : List Pr) (v : Value) (s : ByteArray) (n : Int) (H : AHeap) (ok : Ok H) (hr : Rd EPr H v l) : ∃ H', CC F.law_IdsTakes [v, .string s, .int .i64 n] H = some (.bool true, H') := by
  have hlen := hr.lenS
  by_cases h1 : 8 < (l.length : Int)
  · refine any_of (H1 := H) (d_law_IdsTakes _ _ _ H ?_)
    simp (disch := first | with_reducible rfl | assumption | omega | rfl | (simp only [go_sem]; first | done | omega)) only [go_sem, ↓reduceIte, reduceCtorEq, Nat.reduceEqDiff, Nat.reduceAdd, Nat.reduceSub, Nat.reduceMul, Nat.reduceDiv, Nat.reduceMod, Nat.reduceLeDiff, Nat.reduceLT, Nat.reduceBEq, Int.reduceEq, Int.reduceBEq, Int.reduceBNe, Int.reduceLT, Int.reduceLE, Int.reduceAdd, Int.reduceSub, Int.reduceNeg, Int.reduceToNat, Int.reducePow, Nat.reducePow, Int.reduceMul, Int.reduceDiv, ↓s_law_IdsTakes, hlen, h1]
  by_cases h2 : 30 < ((bl s).length : Int)
  · refine any_of (H1 := H) (d_law_IdsTakes _ _ _ H ?_)
    simp (disch := first | with_reducible rfl | assumption | omega | rfl | (simp only [go_sem]; first | done | omega)) only [go_sem, ↓reduceIte, reduceCtorEq, Nat.reduceEqDiff, Nat.reduceAdd, Nat.reduceSub, Nat.reduceMul, Nat.reduceDiv, Nat.reduceMod, Nat.reduceLeDiff, Nat.reduceLT, Nat.reduceBEq, Int.reduceEq, Int.reduceBEq, Int.reduceBNe, Int.reduceLT, Int.reduceLE, Int.reduceAdd, Int.reduceSub, Int.reduceNeg, Int.reduceToNat, Int.reducePow, Nat.reducePow, Int.reduceMul, Int.reduceDiv, ↓s_law_IdsTakes, hlen, h1, h2]
  obtain ⟨H1, hH1⟩ : ∃ H1, H.push (.cells [.slice none 0 0] T.model_Model true) = H1 := ⟨_, rfl⟩
  have fr1 := Fresh.start ok hH1
  obtain ⟨H2, hH2⟩ : ∃ H2, H1.push (.cells [.slice none 0 0] T.model_Model true) = H2 := ⟨_, rfl⟩
  have fr2 := Fresh.start fr1.ok hH2
  have s2 : Still H1 H2 := fr2.still
  have w2 : W2 H H2 H.n H1.n [] [] := ⟨fr1.to s2, ⟨fr1.still.trans s2, fr2.ok, fr2.mdl, fun c hc => by have := fr2.new c hc; have := fr1.still.n; omega, fr2.srt, fr2.len, fr2.vok⟩, fun c h1 h2 => by
    have := fr1.mdl.blk (MBT_still fr1.mdl s2 h1)
    have := fr2.new c h2
    omega⟩
  rcases l_it s n l v hr (by omega) H.n H1.n l 0 H2 [] rfl w2 with ⟨H', hl⟩ | ⟨H3, w3, hl⟩
  · have hl : ∀ K : K, l_law_IdsTakes_0 v (.string s) (.int .i64 n) (.pointer (some ⟨H.n, 0, none⟩)) (.pointer (some ⟨H1.n, 0, none⟩)) (.int .i64 0) H2 (blkK [1, 2, 7, 8] 0 K) = K .ret [(6, .bool true)] H' := hl
    refine any_of (H1 := H') (d_law_IdsTakes _ _ _ H ?_)
    simp (disch := first | with_reducible rfl | assumption | omega | rfl | (simp only [go_sem]; first | done | omega)) only [go_sem, ↓reduceIte, reduceCtorEq, Nat.reduceEqDiff, Nat.reduceAdd, Nat.reduceSub, Nat.reduceMul, Nat.reduceDiv, Nat.reduceMod, Nat.reduceLeDiff, Nat.reduceLT, Nat.reduceBEq, Int.reduceEq, Int.reduceBEq, Int.reduceBNe, Int.reduceLT, Int.reduceLE, Int.reduceAdd, Int.reduceSub, Int.reduceNeg, Int.reduceToNat, Int.reducePow, Nat.reducePow, Int.reduceMul, Int.reduceDiv, ↓s_law_IdsTakes, hlen, h1, h2, hH1, hH2, hl]
  · have hl : ∀ K : K, l_law_IdsTakes_0 v (.string s) (.int .i64 n) (.pointer (some ⟨H.n, 0, none⟩)) (.pointer (some ⟨H1.n, 0, none⟩)) (.int .i64 0) H2 (blkK [1, 2, 7, 8] 0 K) = K .normal [(1, .string s), (2, .int .i64 n), (7, .pointer (some ⟨H.n, 0, none⟩)), (8, .pointer (some ⟨H1.n, 0, none⟩))] H3 := hl
    have hM := fold_len l []
    simp only [List.length_nil, Nat.zero_add] at hM
    generalize l.foldl (fun m a => (putE m a).2) [] = M at w3 hM
    have k1 := q_lnext H1.n M s H3 w3.r2.mdl w3.r2.srt w3.r2.len w3.r2.vok
    have k2 := q_nexts _ s _ _ H3 (q_Next H.n M s H3 w3.r1.ok w3.r1.mdl w3.r1.srt w3.r1.len w3.r1.vok)
    have k3 := q_nexts _ s _ _ H3 (q_Next0 s H3)
    have k4 := q_takes0 s n H3
    have k5 := q_Equal H.n H1.n M M H3 w3.r1.mdl w3.r2.mdl (by omega) (by omega)
    rw [decide_eq_true rfl] at k5
    obtain ⟨H4, k6, fr4, u4⟩ := q_ltake H1.n M s n H3 w3.r2 (by omega)
    have w4 := (w3.swap.step fr4 u4).swap
    unfold tkV at k6
    unfold nxtV at k1
    obtain ⟨H5, hH5⟩ : ∃ H5, H4.push (.cells [.int .i64 0, .int .i64 0] T.api_Block true) = H5 := ⟨_, rfl⟩
    obtain ⟨s5, n5, f5⟩ := newBlk 0 0 hH5
    obtain ⟨H6, hH6⟩ : ∃ H6, H5.set H4.n (.cells [.int .i64 (tk M s n).1.1, .int .i64 (tk M s n).1.2] T.api_Block true) = H6 := ⟨_, rfl⟩
    have f6 : H6.f H4.n = .cells [.int .i64 (tk M s n).1.1, .int .i64 (tk M s n).1.2] T.api_Block true := by rw [← hH6]; exact set_f_eq
    have fs : Fr (fun b => b = H4.n) H4 H6 := by rw [← hH6]; exact Fr.set s5.still _ _ fun _ => rfl
    have w6 := w4.by fs fun b hb => by omega
    obtain ⟨H7, k7, fr7, u7⟩ := q_takes H.n M s n H6 w6.r1 (by omega)
    have w7 := w6.step fr7 u7
    have hl7 : (tk M s n).2.2.length ≤ 20000 := w7.r1.len
    have k8 := q_Equal H.n H1.n _ _ H7 w7.r1.mdl w7.r2.mdl (by omega) (by omega)
    rw [decide_eq_true rfl] at k8
    generalize tk M s n = x at *
    refine any_of (H1 := H7) (d_law_IdsTakes _ _ _ H ?_)
    simp (disch := first | with_reducible rfl | assumption | omega | rfl | (simp only [go_sem]; first | done | omega)) only [go_sem, ↓reduceIte, reduceCtorEq, Nat.reduceEqDiff, Nat.reduceAdd, Nat.reduceSub, Nat.reduceMul, Nat.reduceDiv, Nat.reduceMod, Nat.reduceLeDiff, Nat.reduceLT, Nat.reduceBEq, Int.reduceEq, Int.reduceBEq, Int.reduceBNe, Int.reduceLT, Int.reduceLE, Int.reduceAdd, Int.reduceSub, Int.reduceNeg, Int.reduceToNat, Int.reducePow, Nat.reducePow, Int.reduceMul, Int.reduceDiv, ↓s_law_IdsTakes, hlen, h1, h2, hH1, hH2, hl, ↓enterK_eq k1, enterK_eq k1, ↓enterK_eq k2, enterK_eq k2, ↓enterK_eq k3, enterK_eq k3, ↓enterK_eq k4, enterK_eq k4, ↓enterK_eq k5, enterK_eq k5, ↓enterK_eq k6, enterK_eq k6, hH5, f5, hH6, f6, ↓enterK_eq k7, enterK_eq k7, ↓enterK_eq k8, enterK_eq k8]

theorem decPr2 {W : World} {H : Type} {enc : TypeId × Value → H} (_ : 0 < W.heap.size) {cs : List Value} {n : Nat} {y : DataW H × List MemPlace} (h : DataW.trod enc Tryd.prog W 0 (fun _ => true) true n T.api_Pair cs = some y) (hl : cs.length = EPr.w) :
    ∃ a : Pr, cs.map (conv2 W.heap.size) = EPr.enc a ∧ True := by
  have ht := Tryd.underlying28
  obtain ⟨c0, c1, rfl⟩ : ∃ c0 c1, cs = [c0, c1] := by
    match cs, hl with
    | [c0, c1], _ => exact ⟨_, _, rfl⟩
  obtain ⟨m0, z0, h0⟩ := dec_field ht h (i := 0) rfl rfl (by kernel_rfl) rfl
  obtain ⟨m1, z1, h1⟩ := dec_field ht h (i := 1) rfl rfl (by kernel_rfl) rfl
  obtain ⟨s0, rfl, _⟩ := dec_str Tryd.underlying9 h0
  obtain ⟨s1, rfl, _⟩ := dec_str Tryd.underlying9 h1
  exact ⟨⟨s0, s1⟩, rfl, trivial⟩

theorem run_IdsTakes (W : World) (v : Value) (l : List Pr) (rl : RdS EPr T.api_Pair (absHeap2 W) v l) (_ : ∀ x, x ∈ l → True) (_ : l.length ≤ maxLen) (s : ByteArray) (_ : (bl s).length ≤ 140737488351232) (n : Int) (_ : (Lit.int .i64 n).wf = true) :
    ∃ k' H', dCall Tryd.prog prims1 hints k' F.law_IdsTakes [v, .string s, .int .i64 n] (absHeap2 W) = some (.bool true, H') := by
  obtain ⟨H', h⟩ := q_IdsTakes l v s n (absHeap2 W) (fun _ => Nat.zero_lt_one) rl.1
  obtain ⟨k, h⟩ := D_run h
  exact ⟨k, _, h⟩

end Go.Proofs.YtlfpjndbpclnnaaDoor

/-
  The engine, part 37: arguments that are structs.
  Conditions: none. By an AI agent.
-/
namespace Go.Proofs.YtlfpjndbpclnnaaDoor.Eng
open Go
set_option linter.unusedVariables false
set_option linter.unusedSimpArgs false

section
variable {P : Program} {W : World} {α : Type} {E : Enc α} {R : α → Prop} {H : Type} {enc : TypeId × Value → H}

theorem pos_of_has {r : Reach} {base : Nat} {a : Addr} {e : TypeId} {n : Nat} (h : W.has P r base a e n) : 0 < W.heap.size := by
  obtain ⟨_, _, row, cells, hshape, _⟩ := h
  unfold World.shape? at hshape
  split at hshape
  · rename_i hw; have := (Array.getElem?_eq_some_iff.1 hw).1; omega
  · cases hshape
theorem pos_of_cell {r : Reach} {base : Nat} {u : TypeId} {a : Addr} {len cap : Nat} (h : Cell.okWide P W r base u (.slice (some a) len cap)) : 0 < W.heap.size := by
  unfold Cell.okWide at h
  split at h
  all_goals first
    | (rename_i h1 h2; cases h2)
    | skip
  unfold Cell.ok at h
  split at h
  all_goals first
    | (rename_i h1 h2; cases h2; exact pos_of_has h.2.2)
    | (rename_i h1 h2; cases h2)
    | exact h.elim

/-- An argument that is a struct. -/
theorem open_agg2 {t : TypeId} {v : Value} {d : DataW H} {p : List MemPlace} {fs : Array Field} (ht : P.underlying t = some (.struct fs)) (hC : P.cellsOf t = E.w)
    (dec : ∀ cs n y, (0 < W.heap.size ∨ ∀ c, c ∈ cs → ∀ a, c ≠ .slice (some a) 0 0) → DataW.trod enc P W 0 (fun _ => true) true n t cs = some y → cs.length = E.w → ∃ a, cs.map (conv2 W.heap.size) = E.enc a ∧ R a)
    (hval : Value.okWide P W .any 0 t v) (h : DataW.Trod enc P W 0 (fun _ => true) true t v d p) :
    ∃ a : α, convA2 W.heap.size v = .agg ⟨E.enc a⟩ ∧ R a := by
  simp only [Value.okWide, ht] at hval
  obtain ⟨cs, rfl, hsz, ts, _, _, hall⟩ := hval
  obtain ⟨fuel, hf⟩ := h
  have hf : DataW.trod enc P W 0 (fun _ => true) true fuel t cs.toList = some (d, p) := hf
  obtain ⟨a, ha, hR⟩ := dec cs.toList fuel _ (by
    by_cases hp : 0 < W.heap.size
    · exact .inl hp
    · refine .inr fun c hc a e => hp ?_
      subst e
      obtain ⟨i, hi, he⟩ := List.getElem_of_mem hc
      obtain ⟨u, _, hu⟩ := hall i (.slice (some a) 0 0) (by rw [← Array.getElem?_toList, List.getElem?_eq_getElem hi, he])
      exact pos_of_cell hu) hf (by rw [Array.length_toList, hsz, hC])
  refine ⟨a, ?_, hR⟩
  show Value.agg (cs.map (conv2 W.heap.size)) = _
  rw [← ha]
  congr 1
  apply Array.toList_inj.1
  simp
end

end Go.Proofs.YtlfpjndbpclnnaaDoor.Eng

/-
  The engine, part 33: rows with laid variables: the wrap that keeps the world's shape; arguments that are structs.
  Conditions: none. By an AI agent.
-/
namespace Go.Proofs.YtlfpjndbpclnnaaDoor.Eng
open Go
set_option linter.unusedVariables false
set_option linter.unusedSimpArgs false

section
variable {H : Type} {enc : TypeId × Value → H}
/-- returnsInHanded_of_change_and, the world's shape kept. -/
theorem wrapX {a : Assume} {C : Checked} {os : Os} {f : FuncId} {fn : Func} {s : ChangeSpec} {conds : List PathCond} {apart fresh handsOn again : Bool} {X : World → Array Value → Prop}
    (hX : ∀ (w w' : World) (args : Array Value), w.heap = w'.heap → X w args → X w' args)
    (own : ownKnob C.prog.godebug = none) (started : os.Started) (noInit : C.prog.inits.idxOf? f = none) (hfn : C.prog.funcs[f]? = some fn)
    (witness : ∃ (w : World) (tape : Tape) (i : Input), w.os = os ∧ (w.forCall tape i).Shaped C.prog ∧ i.vars = [] ∧ Input.okWide C.prog (w.forCall tape i) .any w.heap.size f i ∧
      ((s.pre enc C.prog fn conds apart (w.forCall tape i).memory i.args ∧ X (w.forCall tape i).memory i.args) ∧ sizedMet enc C.prog fn (OpenSpec.ofChange s) apart (w.forCall tape i).memory i.args) ∧ a.holds C.prog (lone (Frame.enter C.prog f i.args .normal) [] (w.forCall tape i)))
    (contract : ∀ (W : World) (base : Nat) (args : Array Value) (ds gs : List (DataW H)) (before : List MemPlace),
      (∀ (j : Nat) t v, fn.params[j]? = some t → args[j]? = some v → Value.okWide C.prog W .any base t v) →
      DataW.Whole enc C.prog fn.params.toList s.vars apart W args.toList ds gs before →
      (DataW.weightsEach C.prog (fn.params.toList ++ s.plain.varTypes C.prog) (ds ++ gs)).all (· ≤ reachBytes) = true →
      W.ShapedOpen C.prog → X W args →
      Calls C.prog f args W fun e W' => ∃ v, e = .returned v ∧ s.post enc C.prog fn apart fresh handsOn again W args v W') :
    ReturnsInHanded a C os f .any (fun w args => (s.pre enc C.prog fn conds apart w args ∧ X w args) ∧ sizedMet enc C.prog fn (OpenSpec.ofChange s) apart w args) (s.post enc C.prog fn apart fresh handsOn again) := by
  refine returnsInHanded_of_calls own started noInit witness ?_
  intro w tape i _ hsh _ hok hpre _
  obtain ⟨_, _, _, fn', hfn', _, _, _, _, hval⟩ := hok
  have e : fn' = fn := Option.some.inj (hfn'.symm.trans hfn)
  subst e
  obtain ⟨⟨⟨ds, gs, before, hw, hc⟩, hx⟩, hz⟩ := hpre
  have hw' := DataW.Whole.of_heap (w' := w.forCall tape i) (by rfl) hw
  refine (contract (w.forCall tape i) w.heap.size i.args ds gs before hval hw' (hz.weights hw) hsh (hX (w.forCall tape i).memory _ _ rfl hx)).mono fun e W' ⟨v, he, hp⟩ => ?_
  subst he
  exact ChangeSpec.post_blind hp
end

end Go.Proofs.YtlfpjndbpclnnaaDoor.Eng

/-
  The law IdsTakes: for every input it returns true, and its input reads as it did; and its card.
  Conditions: none. By an AI agent.
-/
namespace Go.Proofs.YtlfpjndbpclnnaaDoor.idsTakes
open Go Go.ChangeShapes Go.WideShapes Go.ChangeAt Go.RowKit Go.Shelf Go.Lib
open Go.ChangeMaps (open_string shut_string)
set_option linter.unusedVariables false
theorem own : ownKnob Tryd.prog.godebug = none := by kernel_rfl
theorem laidOut : laidOutB Tryd.prog = true := by kernel_rfl
theorem gN0 : Tryd.prog.globalNamed "strconv.ErrSyntax" = some 0 := by kernel_rfl
theorem gT0 : (Tryd.prog.globals[0]?).map (·.type) = some 88 := by kernel_rfl
theorem star0 : "*" ++ "errors.errorString" = "*errors.errorString" := by decide
theorem row0 (u : TypeId) (h : Tryd.prog.typeName? 3 u = some "*errors.errorString") : u = 154 :=
  typeName_ptr_named (nm := "errors.errorString") (by rw [star0]; kernel_rfl) (by kernel_rfl) (by decide) u (by rw [star0]; exact h)
theorem gN1 : Tryd.prog.globalNamed "strconv.ErrRange" = some 1 := by kernel_rfl
theorem gT1 : (Tryd.prog.globals[1]?).map (·.type) = some 88 := by kernel_rfl
theorem star1 : "*" ++ "errors.errorString" = "*errors.errorString" := by decide
theorem row1 (u : TypeId) (h : Tryd.prog.typeName? 3 u = some "*errors.errorString") : u = 154 :=
  typeName_ptr_named (nm := "errors.errorString") (by rw [star1]; kernel_rfl) (by kernel_rfl) (by decide) u (by rw [star1]; exact h)
theorem gN2 : Tryd.prog.globalNamed "internal/strconv.uint64pow10" = some 2 := by kernel_rfl
theorem gT2 : (Tryd.prog.globals[2]?).map (·.type) = some 149 := by kernel_rfl
theorem glob (W : World) (hsh : W.ShapedOpen Tryd.prog) (hl : laidMetH Tryd.prog Rows.idsTakesRow.laid W) : Eng.Glob W.heap.size W := fun g hg => by
  rw [MakeChecks.laidMetH_plain _ _ _ (by kernel_rfl)] at hl
  simp only [Eng.globs, List.mem_cons, List.not_mem_nil, or_false] at hg
  rcases hg with rfl | rfl | rfl
  · obtain ⟨a, sx, hv, _⟩ := laid_sentinel hl.tail.tail.tail.tail gN0 gT0 Tryd.underlying88 row0 Tryd.underlying154 Tryd.underlying156 rfl rfl Tryd.underlying9 (by kernel_rfl) (by kernel_rfl)
    have hm : W.cell? ⟨0, 0, none⟩ = some (.iface 154 (.pointer (some a))) := by simpa using World.var?_cell gN0 hv 0
    obtain ⟨cs, e, fr, h1, _, _⟩ := Eng.cell_abs hm
    rw [Eng.cell_cellO] at hm
    exact ⟨(Array.getElem?_eq_some_iff.1 h1).1, _, hm, .inr ⟨_, _, rfl⟩⟩
  · obtain ⟨a, sx, hv, _⟩ := laid_sentinel hl.tail.tail.tail gN1 gT1 Tryd.underlying88 row1 Tryd.underlying154 Tryd.underlying156 rfl rfl Tryd.underlying9 (by kernel_rfl) (by kernel_rfl)
    have hm : W.cell? ⟨1, 0, none⟩ = some (.iface 154 (.pointer (some a))) := by simpa using World.var?_cell gN1 hv 0
    obtain ⟨cs, e, fr, h1, _, _⟩ := Eng.cell_abs hm
    rw [Eng.cell_cellO] at hm
    exact ⟨(Array.getElem?_eq_some_iff.1 h1).1, _, hm, .inr ⟨_, _, rfl⟩⟩
  · have ht : Lib.TabIs Tryd.prog W "internal/strconv.uint64pow10" .u64 [1, 10, 100, 1000, 10000, 100000, 1000000, 10000000, 100000000, 1000000000, 10000000000, 100000000000, 1000000000000, 10000000000000, 100000000000000, 1000000000000000, 10000000000000000, 100000000000000000, 1000000000000000000, 10000000000000000000] := Lib.tabIs_of_head gN2 gT2 Tryd.underlying149 Tryd.underlying129 (by kernel_rfl) (by kernel_rfl) (rest := _) hl.tail.tail
    unfold Lib.TabIs World.var? at ht
    simp only [gN2, Option.bind_some] at ht
    split at ht
    · rename_i cs e fr hh
      cases ht
      exact ⟨(Array.getElem?_eq_some_iff.1 hh).1, e, fr, hh⟩
    · cases ht
set_option maxRecDepth 100000 in
theorem lifted (os : Os) (started : os.Started) (H : Type) (enc : TypeId × Value → H) :
    ReturnsInHanded {} Tryd.checked os 3 .any (fun w args => (Rows.idsTakesSpec.pre enc Tryd.prog Tryd.f3 [] false w args ∧ laidMetH Tryd.prog Rows.idsTakesRow.laid w) ∧ sizedMet enc Tryd.prog Tryd.f3 (OpenSpec.ofChange Rows.idsTakesSpec) false w args)
      (Rows.idsTakesSpec.post enc Tryd.prog Tryd.f3 false true false false) := by
  refine Eng.wrapX (C := Tryd.checked) (X := fun w _ => laidMetH Tryd.prog Rows.idsTakesRow.laid w) (fun _ _ _ hh h => h.of_heap hh) own started (by kernel_rfl) Tryd.func3
    (ChangeSpec.witness_shaped (enc := enc) (C := Tryd.checked) (os := os) (X := fun w _ => laidMetH Tryd.prog Rows.idsTakesRow.laid w) false (World.laidAll Tryd.prog os Rows.idsTakesRow.laid) #[.slice none 0 0, .string ByteArray.empty, .int .i64 0] 8 (World.laidAll_os _ _ _)
      (World.shaped_of_ZipB (by kernel_rfl) (by kernel_rfl)) (by kernel_rfl) (by kernel_rfl) (by kernel_rfl)
      (by rw [MakeChecks.laidMetH_plain _ _ _ (by kernel_rfl)]; exact laidMet_laidAll _ (by kernel_rfl) (by kernel_rfl))) ?_
  intro W base args ds gs before hval0 hW hsz0 hsh hlx
  have hsz : (DataW.weightsEach Tryd.prog (Tryd.f3.params.toList ++ Rows.idsTakesSpec.plain.varTypes Tryd.prog) (ds ++ gs)).all (· ≤ reachBytes) = true := hsz0
  have hval : ∀ (j : Nat) t v, Tryd.f3.params[j]? = some t → args[j]? = some v → Value.okWide Tryd.prog W .any base t v := hval0
  have hW' := hW
  obtain ⟨p, q, hA0, hV, rfl, hfz, hnd⟩ := hW
  have hA : DataW.TrodAll enc Tryd.prog W 0 (fun _ => true) true Tryd.f3.params.toList args.toList ds p := hA0
  rw [Tryd.params3] at hA hval hsz
  obtain ⟨v0, vs0, d0, ds0, p0, q0, hargs, rfl, rfl, h0, r0⟩ := trodAll_cons hA
  obtain ⟨v1, vs1, d1, ds1, p1, q1, rfl, rfl, rfl, h1, r1⟩ := trodAll_cons r0
  obtain ⟨v2, vs2, d2, ds2, p2, q2, rfl, rfl, rfl, h2, r2⟩ := trodAll_cons r1
  obtain ⟨rfl, rfl, rfl⟩ := trodAll_nil r2
  obtain rfl : args = #[v0, v1, v2] := by cases args; simp_all
  obtain ⟨rfl, rfl⟩ := trodVars_none hV
  have k0 := h0
  have lt0 : ∀ x ∈ p0, x.block < W.heap.size := by obtain ⟨m, hm⟩ := k0; exact DataW.trod_lt m _ _ _ hm
  obtain ⟨l0, rd0, all0, len0⟩ := Eng.open_rd2 (t := 22) (e' := 28) Tryd.underlying22 (by kernel_rfl) (fun hp cs n y h hl => decPr2 hp h hl) (hval 0 22 v0 rfl rfl) k0
  obtain ⟨a1, rfl, rfl, rfl, y1⟩ := open_string Tryd.underlying9 (hval 1 9 v1 rfl rfl) h1
  have w1 : (Eng.bl a1).length ≤ 140737488351232 := sized_string hsz (j := 1) (t := 9) rfl rfl
  obtain ⟨a2, rfl, rfl, rfl, w2⟩ := open_int Tryd.underlying3 (hval 2 3 v2 rfl rfl) h2
  refine (Eng.law_calls2 (args := #[v0, .string a1, .int .i64 a2]) prims1_ok mixed (glob W hsh hlx) (run_IdsTakes W (Eng.convA2 W.heap.size v0) l0 rd0 all0 len0 a1 w1 a2 w2)).mono fun e W' ⟨he, bel⟩ => ?_
  subst he
  exact ⟨_, rfl, _, _, _, [], _, [], hW', trodAll_mk1 (shut_bool Tryd.underlying4 _), (trodAll_cons_mk (Below.trod laidOut (by kernel_rfl) (of_decide_eq_true (by kernel_rfl)) k0 bel lt0) (trodAll_cons_mk (shut_string Tryd.underlying9 y1) (trodAll_cons_mk (shut_int Tryd.underlying3 w2) trodAll_mk0))), rfl, bel.frame _, fun h => by cases h⟩

theorem over : Rows.idsTakesRow.holds Tryd.pinned (OpenSpec.ofChange Rows.idsTakesSpec) :=
  OpenClaim.holds_of_wide 3 Tryd.f3 rfl rfl rfl rfl rfl rfl rfl ⟨rfl, rfl, rfl, rfl, rfl⟩ rfl rfl rfl rfl rfl (by kernel_rfl) Tryd.func3 (by kernel_rfl)
    (of_decide_eq_true (by kernel_rfl)) (by unfold Func.isWrapper; first | (rw [if_pos (by decide +kernel)]; kernel_rfl) | (rw [if_neg (by decide +kernel)]; exact ⟨rfl, rfl⟩))
    (fun os started H enc _ => lifted os started H enc)
theorem proved : Rows.IdsTakesCardSaid :=
  Claim7.holds_tied_plain_at .later [] [.data, .data, .data, .sentinel, .sentinel] true (true, "5d92769dfac6fcdb3889fef9c89a0676a9231a201aef102cd363bbd35384899b") true over (fun _ h => by cases h) (by kernel_rfl) (fun _ h => by cases h) idsTakes_row_tie rfl ⟨rfl, rfl⟩ (by kernel_rfl) rfl
    (fun f fn hf hfn => by
      obtain rfl : f = 3 := Option.some.inj ((show Tryd.prog.funcNamed "ticketline/ticketlinelaw47.IdsTakes" = some 3 by kernel_rfl).symm.trans hf) |>.symm
      obtain rfl : fn = Tryd.f3 := (Option.some.inj (Tryd.func3.symm.trans hfn)).symm
      exact ⟨by kernel_rfl, fun j t ht => by
        rw [Tryd.params3] at ht
        have hm : t ∈ [22, 9, 3] := by simpa using Array.mem_of_getElem? ht
        have hall : ([22, 9, 3].all fun u => !Tryd.prog.wantsStandIn u) = true := by kernel_rfl
        exact (show Tryd.prog.wantsStandIn t = false by simpa using List.all_eq_true.1 hall t hm)⟩)
    (by kernel_rfl)
#print axioms proved
end Go.Proofs.YtlfpjndbpclnnaaDoor.idsTakes
namespace Go.Proofs.YtlfpjndbpclnnaaDoor
/-- The card, under a short name, for the claim. -/
theorem idsTakes_card : Rows.IdsTakesCardSaid := idsTakes.proved
end Go.Proofs.YtlfpjndbpclnnaaDoor
