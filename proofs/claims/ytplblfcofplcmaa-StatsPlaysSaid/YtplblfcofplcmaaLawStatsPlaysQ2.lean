/-
  2 texts in one (merge.py): P LawStatsPlays.
  Conditions: none. By an AI agent.
-/
import Derived.Test.YtplblfcofplcmaaLawStatsPlaysQ1
import Derived.Test.YtplblfcofplcmaaRows
import Derived.WalkKit
import Derived.ProofKit
import Derived.OpenShut
import Derived.ShutString
import Derived.ChangeOld
import Derived.Below
import Derived.SizedLaws
import Derived.ChangeArms
import Derived.Carry

/-
  Chapter 26: the law StatsPlays runs to true.
  Conditions: none. By an AI agent.
-/
set_option maxRecDepth 10000
set_option linter.unusedSimpArgs false
set_option linter.unusedVariables false
namespace Go.Proofs.Ytplblfcofplcmaa
open Go Eng
attribute [local congr] bareK_congr bothK_congr

structure Act where
  what : Int
  n : Int
  t : Int
def EAct : Enc Act := ⟨3, fun a => [.int .i64 a.what, .int .i64 a.n, .int .i64 a.t], fun _ => rfl, by decide, fun _ => rfl⟩
def HR (v : Value) : Blk := .cells [v] T.ref26_Histogram true

theorem k_known' (H : AHeap) : CC F.law_known [] H = some (.bool true, H) := k_known H

structure PlS (v0 : Value) (l : List Act) (N0 h o x y : Nat) (vx vy : Value) (L M : List Co) (H : AHeap) : Prop where
  rl : Rd EAct H v0 l
  off : ∀ c, blockOf v0 = some c → c < N0
  ok : ∀ c, H.ver c < H.clk
  hn : N0 ≤ h ∧ h < H.n
  on : N0 ≤ o ∧ o < H.n
  xn : N0 ≤ x ∧ x < H.n
  yn : N0 ≤ y ∧ y < H.n
  d : h ≠ o ∧ h ≠ x ∧ h ≠ y ∧ o ≠ x ∧ o ≠ y ∧ x ≠ y
  fh : H.f h = HB (ofL (ex L))
  fo : H.f o = HB (ofL (ex M))
  fx : H.f x = .cells [vx] T.ref26_Histogram true
  fy : H.f y = .cells [vy] T.ref26_Histogram true
  rx : Rd ECo H vx L
  ry : Rd ECo H vy M
  ox : ∀ c, blockOf vx = some c → c < H.n ∧ c ≠ h ∧ c ≠ o ∧ c ≠ x ∧ c ≠ y
  oy : ∀ c, blockOf vy = some c → c < H.n ∧ c ≠ h ∧ c ≠ o ∧ c ≠ x ∧ c ≠ y
  wL : Okc L
  wM : Okc M

section
variable {v0 : Value} {l : List Act} {N0 h o x y : Nat} {vx vy : Value} {L M : List Co} {H : AHeap}

theorem PlS.swap (s : PlS v0 l N0 h o x y vx vy L M H) : PlS v0 l N0 o h y x vy vx M L H :=
  ⟨s.rl, s.off, s.ok, s.on, s.hn, s.yn, s.xn, by have := s.d; omega, s.fo, s.fh, s.fy, s.fx, s.ry, s.rx, fun c hc => by have := s.oy c hc; omega, fun c hc => by have := s.ox c hc; omega, s.wM, s.wL⟩

/-- After the program's call: only the histogram itself is turned. -/
theorem PlS.step (s : PlS v0 l N0 h o x y vx vy L M H) {H1 H2 : AHeap} {L' : List Co} {vx' : Value} (fr1 : Fr (fun c => c = h) H H1) (f1 : H1.f h = HB (ofL (ex L'))) (fr2 : Fr (fun c => c = x) H1 H2) (f2 : H2.f x = .cells [vx'] T.ref26_Histogram true)
    (r2 : Rd ECo H2 vx' L') (ox : ∀ c, blockOf vx' = some c → c < H2.n ∧ c ≠ h ∧ c ≠ o ∧ c ≠ x ∧ c ≠ y) (w : Okc L') : PlS v0 l N0 h o x y vx' vy L' M H2 := by
  have a := s.d
  have n1 := fr1.n
  have n2 := fr2.n
  have b1 := s.hn
  have b2 := s.on
  have b3 := s.xn
  have b4 := s.yn
  exact ⟨(s.rl.keep fr1 fun c hc h => by have := s.off c hc; omega).keep fr2 fun c hc h => by have := s.off c hc; omega, s.off, fr2.ok (fr1.ok s.ok), by omega, by omega, by omega, by omega, a,
    by rw [fr2.f (by omega) (by omega)]; exact f1, by rw [fr2.f (by omega) (by omega), fr1.f (by omega) (by omega)]; exact s.fo, f2, by rw [fr2.f (by omega) (by omega), fr1.f (by omega) (by omega)]; exact s.fy, r2,
    (s.ry.keep fr1 fun c hc h => by have := s.oy c hc; omega).keep fr2 fun c hc h => by have := s.oy c hc; omega, ox, fun c hc => by have := s.oy c hc; omega, w, s.wM⟩

theorem PlS.mid (s : PlS v0 l N0 h o x y vx vy L M H) {H1 : AHeap} (fr1 : Fr (fun c => c = h) H H1) : H1.f x = .cells [vx] T.ref26_Histogram true ∧ Rd ECo H1 vx L ∧ H1.f y = .cells [vy] T.ref26_Histogram true ∧ Rd ECo H1 vy M := by
  have a := s.d
  have b3 := s.xn
  have b4 := s.yn
  exact ⟨by rw [fr1.f (by omega) (by omega)]; exact s.fx, s.rx.keep fr1 fun c hc h => by have := s.ox c hc; omega, by rw [fr1.f (by omega) (by omega)]; exact s.fy, s.ry.keep fr1 fun c hc h => by have := s.oy c hc; omega⟩

theorem PlS.alike (s : PlS v0 l N0 h o x y vx vy L M H) : CC F.law_alike [pt h, pt x] H = some (.bool true, H) :=
  q_alike s.wL s.fh s.hn.2 s.fx s.xn.2 s.rx fun c hc => (s.ox c hc).1

theorem PlS.addBoth (s : PlS v0 l N0 h o x y vx vy L M H) (hlen : L.length ≤ 1000) (n t : Int) :
    ∃ e H1 H2 vx', CC F.stats_Histogram_Add [pt h, .int .i64 n, .int .i64 t] H = some (.int .i64 e, H1) ∧ CC F.ref26_Histogram_Add [pt x, .int .i64 n, .int .i64 t] H1 = some (.int .i64 e, H2) ∧ Fr (fun c => c = h) H H1 ∧
      ∃ L', L'.length ≤ L.length + 1 ∧ PlS v0 l N0 h o x y vx' vy L' M H2 := by
  obtain ⟨H1, e1, f1, fr1⟩ := q_sAdd L h n t H s.wL s.fh s.hn.2 s.ok
  obtain ⟨g1, g2, _, _⟩ := s.mid fr1
  have n1 := fr1.n
  have b1 := s.hn
  have b2 := s.on
  have b3 := s.xn
  have b4 := s.yn
  have hw := okc_add s.wL n t
  by_cases hc : (addC L n t).1 ≠ 0 ∨ t = 0
  · have h2 : (addC L n t).2 = L := by
      unfold addC at hc ⊢
      split
      · rfl
      · rename_i hb
        rw [if_neg hb] at hc
        split
        · rfl
        · rename_i ht
          rw [if_neg ht] at hc
          split
          · rfl
          · rename_i hf
            rw [if_neg hf] at hc
            exact absurd rfl (hc.resolve_right ht)
    have e2 := q_rAdd_still (b := x) (H := H1) n t g1 g2 s.wL h2 hc
    rw [h2] at f1
    exact ⟨_, H1, H1, vx, e1, e2, fr1, L, Nat.le_succ _, s.step fr1 f1 (Fr.refl H1) g1 g2 (fun c hc => by have := s.ox c hc; omega) s.wL⟩
  · have hc1 : (addC L n t).1 = 0 := by
      by_cases h : (addC L n t).1 = 0
      · exact h
      · exact absurd (.inl h) hc
    have hc2 : t ≠ 0 := fun h => hc (.inr h)
    have hb : ¬ badA n t = true := fun h => by unfold addC at hc1; rw [if_pos h] at hc1; cases hc1
    have hfu : ¬ fullA L n.toNat t.toNat = true := fun h => by unfold addC at hc1; rw [if_neg hb, if_neg hc2, if_pos h] at hc1; cases hc1
    have hL' : (addC L n t).2 = L ++ [(n.toNat, t.toNat)] := by unfold addC; rw [if_neg hb, if_neg hc2, if_neg hfu]
    have hb' : ¬ (n < 0 ∨ 1099511627776 < n ∨ t < 0 ∨ 1099511627776 < t) := by unfold badA at hb; simpa using hb
    rw [hc1] at e1
    rw [hL'] at f1 hw
    obtain ⟨n, rfl⟩ : ∃ k : Nat, n = (k : Int) := ⟨n.toNat, by omega⟩
    obtain ⟨t, rfl⟩ : ∃ k : Nat, t = (k : Int) := ⟨t.toNat, by omega⟩
    simp only [Int.toNat_natCast] at hfu f1 hw
    obtain ⟨v', H2, e2, k1, k2, k3, k4⟩ := q_rAdd_ok (b := x) (H := H1) n t g1 (by omega) g2 (fr1.ok s.ok) s.wL hlen (by omega) (by omega) (by omega) (Bool.eq_false_iff.2 hfu)
    exact ⟨0, H1, H2, v', e1, e2, fr1, _, by simp, s.step fr1 f1 k4 k1 k2 (fun c hc => by have := k3 c hc; omega) hw⟩

theorem PlS.mergeBoth (s : PlS v0 l N0 h o x y vx vy L M H) (h1 : L.length ≤ 1000) (h2 : M.length ≤ 1000) :
    ∃ e H1 H2 vx', CC F.stats_Histogram_Merge [pt h, pt o] H = some (.int .i64 e, H1) ∧ CC F.ref26_Histogram_Merge [pt x, pt y] H1 = some (.int .i64 e, H2) ∧
      ∃ L', L'.length ≤ L.length + M.length ∧ PlS v0 l N0 h o x y vx' vy L' M H2 := by
  obtain ⟨H1, e1, f1, fr1⟩ := q_sMerge L M h o H s.wL s.wM s.fh s.fo s.hn.2 s.ok
  obtain ⟨g1, g2, g3, g4⟩ := s.mid fr1
  have n1 := fr1.n
  have b1 := s.hn
  have b2 := s.on
  have b3 := s.xn
  have b4 := s.yn
  have hw := okc_mrg s.wL s.wM
  unfold mrgC at e1 f1 hw
  by_cases hf : fullM L M = true
  · rw [if_pos hf] at e1 f1 hw
    exact ⟨_, H1, H1, vx, e1, q_rMerge_full g1 g2 s.wL g3 g4 s.wM hf, L, by omega, s.step fr1 f1 (Fr.refl H1) g1 g2 (fun c hc => by have := s.ox c hc; omega) s.wL⟩
  · rw [if_neg hf] at e1 f1 hw
    obtain ⟨v', H2, e2, k1, k2, k3, k4⟩ := q_rMerge_ok (b := x) (a := y) (H := H1) g1 (by omega) g2 (fr1.ok s.ok) s.wL h1 g3 (by omega) g4 s.wM h2 (Bool.eq_false_iff.2 hf)
    exact ⟨_, H1, H2, v', e1, e2, _, by simp, s.step fr1 f1 k4 k1 k2 (fun c hc => by have := k3 c hc; omega) hw⟩

theorem PlS.mergeSelf (s : PlS v0 l N0 h o x y vx vy L M H) (h1 : L.length ≤ 1000) :
    ∃ e H1 H2 vx', CC F.stats_Histogram_Merge [pt h, pt h] H = some (.int .i64 e, H1) ∧ CC F.ref26_Histogram_Merge [pt x, pt x] H1 = some (.int .i64 e, H2) ∧
      ∃ L', L'.length ≤ L.length + L.length ∧ PlS v0 l N0 h o x y vx' vy L' M H2 := by
  obtain ⟨H1, e1, f1, fr1⟩ := q_sMerge L L h h H s.wL s.wL s.fh s.fh s.hn.2 s.ok
  obtain ⟨g1, g2, g3, g4⟩ := s.mid fr1
  have n1 := fr1.n
  have b1 := s.hn
  have b2 := s.on
  have b3 := s.xn
  have b4 := s.yn
  have hw := okc_mrg s.wL s.wL
  unfold mrgC at e1 f1 hw
  by_cases hf : fullM L L = true
  · rw [if_pos hf] at e1 f1 hw
    exact ⟨_, H1, H1, vx, e1, q_rMerge_full g1 g2 s.wL g1 g2 s.wL hf, L, by omega, s.step fr1 f1 (Fr.refl H1) g1 g2 (fun c hc => by have := s.ox c hc; omega) s.wL⟩
  · rw [if_neg hf] at e1 f1 hw
    obtain ⟨v', H2, e2, k1, k2, k3, k4⟩ := q_rMerge_ok (b := x) (a := x) (H := H1) g1 (by omega) g2 (fr1.ok s.ok) s.wL h1 g1 (by omega) g2 s.wL h1 (Bool.eq_false_iff.2 hf)
    exact ⟨_, H1, H2, v', e1, e2, _, by simp, s.step fr1 f1 k4 k1 k2 (fun c hc => by have := k3 c hc; omega) hw⟩

theorem PlS.copy (s : PlS v0 l N0 h o x y vx vy L M H) :
    ∃ e H1 H2, CC F.stats_Histogram_Copy [pt h] H = some (pt H.n, H1) ∧ CC F.stats_Histogram_Add [pt h, .int .i64 7, .int .i64 1] H1 = some (.int .i64 e, H2) ∧ PlS v0 l N0 H.n o x y vx vy L M H2 := by
  obtain ⟨H1, e1, f1, s1, hlt⟩ := q_Copy (ofL (ex L)) h H s.fh s.hn.2
  have b1 := s.hn
  have b2 := s.on
  have b3 := s.xn
  have b4 := s.yn
  have a := s.d
  obtain ⟨H2, e2, _, fr2⟩ := q_sAdd L h 7 1 H1 s.wL (by rw [s1.f b1.2 fun h => h]; exact s.fh) (by omega) (s1.ok s.ok)
  have n2 := fr2.n
  have fr : Fr (fun c => c = h) H H2 := s1.still.trans fr2
  refine ⟨_, H1, H2, e1, e2, ⟨s.rl.keep fr fun c hc h => by have := s.off c hc; omega, s.off, fr.ok s.ok, by omega, by omega, by omega, by omega, by omega,
    by rw [fr2.f (by omega) (by omega)]; exact f1, by rw [fr.f (by omega) (by omega)]; exact s.fo, by rw [fr.f (by omega) (by omega)]; exact s.fx, by rw [fr.f (by omega) (by omega)]; exact s.fy,
    s.rx.keep fr fun c hc h => by have := s.ox c hc; omega, s.ry.keep fr fun c hc h => by have := s.oy c hc; omega, fun c hc => by have := s.ox c hc; omega, fun c hc => by have := s.oy c hc; omega, s.wL, s.wM⟩⟩

/-! ### the loop -/
@[go_sem] theorem hp_ne {ox oy : Operand} {a : Addr} : xbin Try.prog .neq T.p_stats_Histogram ox oy (.pointer (some a)) (.pointer none) = some (.bool true) := by kernel_rfl

abbrev KK (K : K) : Eng.K := blkK [] 0 (seqK (fun _ h13 => K .ret [(2, .bool true)] h13) K)
theorem l_plays (hl : l.length ≤ 40) : ∀ (m : List Act) (i h o x y : Nat) (vx vy : Value) (L M : List Co) (H : AHeap), l.drop i = m → i ≤ l.length → PlS v0 l N0 h o x y vx vy L M H → L.length ≤ 400 + i → M.length ≤ 400 + i →
    ∃ H', ∀ K, l_law_StatsPlays_0 v0 (pt h) (pt o) (pt x) (pt y) (.int .i64 (i : Int)) H (KK K) = K .ret [(2, .bool true)] H'
  | [], i, h, o, x, y, vx, vy, L, M, H, hm, hi, s, h1, h2 => by
    have hh : l.length ≤ i := List.drop_eq_nil_iff.1 hm
    have hlt : ¬ (i : Int) < (l.length : Int) := by omega
    have hlen := s.rl.lenS
    refine ⟨H, fun K => ?_⟩
    rw [r_law_StatsPlays_0]
    simp (disch := first | with_reducible rfl | assumption | omega | rfl | (simp only [go_sem]; first | done | omega)) only [go_sem, ↓reduceIte, reduceCtorEq, Nat.reduceEqDiff, Nat.reduceAdd, Nat.reduceSub, Nat.reduceMul, Nat.reduceDiv, Nat.reduceMod, Nat.reduceLeDiff, Nat.reduceLT, Nat.reduceBEq, Int.reduceEq, Int.reduceBEq, Int.reduceBNe, Int.reduceLT, Int.reduceLE, Int.reduceAdd, Int.reduceSub, Int.reduceNeg, Int.reduceToNat, Int.reducePow, Nat.reducePow, Int.reduceMul, Int.reduceDiv, ↓s_law_StatsPlays_b0, hlen, hlt, e_known]
  | a :: m, i, h, o, x, y, vx, vy, L, M, H, hm, hi, s, h1, h2 => by
    obtain ⟨hh, ha, hm'⟩ := drop_cons' hm
    have hlt : (i : Int) < (l.length : Int) := by omega
    have hlen := s.rl.lenS
    obtain ⟨bb, of, ix, hbn, hc, hbl⟩ := s.rl.ix (q := .i64) hh
    have ix : ixS 3 v0 (.int .i64 i) = some (.pointer (some ⟨bb, of, none⟩)) := ix
    rw [ha] at hc
    have c0 : cellB (H.f bb) of = some (.int .i64 a.what) := cutB_cell hc (i := 0) (by decide)
    have c1 : cellB (H.f bb) (of + 1) = some (.int .i64 a.n) := cutB_cell hc (i := 1) (by decide)
    have c2 : cellB (H.f bb) (of + 2) = some (.int .i64 a.t) := cutB_cell hc (i := 2) (by decide)
    have hbb : bb < N0 := s.off bb hbl
    have b1 := s.hn
    have b2 := s.xn
    have b3 := s.on
    have b4 := s.yn
    have hlx := s.rx.lenS
    have hly := s.ry.lenS
    have hfx := s.fx
    have hfy := s.fy
    -- what follows a round
    have next : ∀ (h' o' x' y' : Nat) (vx' vy' : Value) (L' M' : List Co) (H' : AHeap), PlS v0 l N0 h' o' x' y' vx' vy' L' M' H' → L'.length ≤ 400 + (i + 1) → M'.length ≤ 400 + (i + 1) →
        ∃ H'', (∀ K, l_law_StatsPlays_0 v0 (pt h') (pt o') (pt x') (pt y') (.int .i64 ((i : Int) + 1)) H' (KK K) = K .ret [(2, .bool true)] H'') ∧ CC F.law_alike [pt h', pt x'] H' = some (.bool true, H') ∧ CC F.law_alike [pt o', pt y'] H' = some (.bool true, H') := fun h' o' x' y' vx' vy' L' M' H' s' k1 k2 => by
      obtain ⟨H'', g⟩ := l_plays hl m (i + 1) h' o' x' y' vx' vy' L' M' H' hm' hh s' k1 k2
      exact ⟨H'', fun K => by have := g K; rw [Int.natCast_add] at this; exact this, s'.alike, s'.swap.alike⟩
    by_cases w0 : a.what = 0
    · obtain ⟨e, H1, H2, vx', e1, e2, fr1, L', k1, s'⟩ := s.addBoth (by omega) a.n a.t
      have hck : H.n ≤ bb ∨ H1.ver bb = H.ver bb := .inr (fr1.ver hbn (by omega))
      have f1 : H1.f bb = H.f bb := fr1.f hbn (by omega)
      have n1 := fr1.n
      obtain ⟨H3, g1, g2, g3⟩ := next _ _ _ _ _ _ _ _ _ s' (by omega) (by omega)
      refine ⟨H3, fun K => ?_⟩
      have g1 := g1 K
      rw [r_law_StatsPlays_0]
      simp (disch := first | with_reducible rfl | assumption | omega | rfl | (simp only [go_sem]; first | done | omega)) only [go_sem, ↓reduceIte, reduceCtorEq, Nat.reduceEqDiff, Nat.reduceAdd, Nat.reduceSub, Nat.reduceMul, Nat.reduceDiv, Nat.reduceMod, Nat.reduceLeDiff, Nat.reduceLT, Nat.reduceBEq, Int.reduceEq, Int.reduceBEq, Int.reduceBNe, Int.reduceLT, Int.reduceLE, Int.reduceAdd, Int.reduceSub, Int.reduceNeg, Int.reduceToNat, Int.reducePow, Nat.reducePow, Int.reduceMul, Int.reduceDiv, ↓s_law_StatsPlays_b0, hlen, hlt, ix, c0, w0, c1, c2, ↓enterK_eq e1, enterK_eq e1, f1, ↓enterK_eq e2, enterK_eq e2, decide_true, ↓enterK_eq g2, enterK_eq g2, ↓enterK_eq g3, enterK_eq g3]
      exact g1
    by_cases w1 : a.what = 1
    · by_cases hg : 400 < L.length + M.length
      · have hg' : (400 : Int) < (L.length : Int) + (M.length : Int) := by omega
        refine ⟨H, fun K => ?_⟩
        rw [r_law_StatsPlays_0]
        simp (disch := first | with_reducible rfl | assumption | omega | rfl | (simp only [go_sem]; first | done | omega)) only [go_sem, ↓reduceIte, reduceCtorEq, Nat.reduceEqDiff, Nat.reduceAdd, Nat.reduceSub, Nat.reduceMul, Nat.reduceDiv, Nat.reduceMod, Nat.reduceLeDiff, Nat.reduceLT, Nat.reduceBEq, Int.reduceEq, Int.reduceBEq, Int.reduceBNe, Int.reduceLT, Int.reduceLE, Int.reduceAdd, Int.reduceSub, Int.reduceNeg, Int.reduceToNat, Int.reducePow, Nat.reducePow, Int.reduceMul, Int.reduceDiv, ↓s_law_StatsPlays_b0, hlen, hlt, ix, c0, w1, hfx, hfy, hlx, hly, hg', e_known]
      · have hg' : ¬ (400 : Int) < (L.length : Int) + (M.length : Int) := by omega
        obtain ⟨e, H1, H2, vx', e1, e2, L', k1, s'⟩ := s.mergeBoth (by omega) (by omega)
        obtain ⟨H3, g1, g2, g3⟩ := next _ _ _ _ _ _ _ _ _ s' (by omega) (by omega)
        refine ⟨H3, fun K => ?_⟩
        have g1 := g1 K
        rw [r_law_StatsPlays_0]
        simp (disch := first | with_reducible rfl | assumption | omega | rfl | (simp only [go_sem]; first | done | omega)) only [go_sem, ↓reduceIte, reduceCtorEq, Nat.reduceEqDiff, Nat.reduceAdd, Nat.reduceSub, Nat.reduceMul, Nat.reduceDiv, Nat.reduceMod, Nat.reduceLeDiff, Nat.reduceLT, Nat.reduceBEq, Int.reduceEq, Int.reduceBEq, Int.reduceBNe, Int.reduceLT, Int.reduceLE, Int.reduceAdd, Int.reduceSub, Int.reduceNeg, Int.reduceToNat, Int.reducePow, Nat.reducePow, Int.reduceMul, Int.reduceDiv, ↓s_law_StatsPlays_b0, hlen, hlt, ix, c0, w1, hfx, hfy, hlx, hly, hg', ↓enterK_eq e1, enterK_eq e1, ↓enterK_eq e2, enterK_eq e2, decide_true, ↓enterK_eq g2, enterK_eq g2, ↓enterK_eq g3, enterK_eq g3]
        exact g1
    by_cases w2 : a.what = 2
    · by_cases hg : 200 < L.length
      · have hg' : (200 : Int) < (L.length : Int) := by omega
        refine ⟨H, fun K => ?_⟩
        rw [r_law_StatsPlays_0]
        simp (disch := first | with_reducible rfl | assumption | omega | rfl | (simp only [go_sem]; first | done | omega)) only [go_sem, ↓reduceIte, reduceCtorEq, Nat.reduceEqDiff, Nat.reduceAdd, Nat.reduceSub, Nat.reduceMul, Nat.reduceDiv, Nat.reduceMod, Nat.reduceLeDiff, Nat.reduceLT, Nat.reduceBEq, Int.reduceEq, Int.reduceBEq, Int.reduceBNe, Int.reduceLT, Int.reduceLE, Int.reduceAdd, Int.reduceSub, Int.reduceNeg, Int.reduceToNat, Int.reducePow, Nat.reducePow, Int.reduceMul, Int.reduceDiv, ↓s_law_StatsPlays_b0, hlen, hlt, ix, c0, w2, hfx, hlx, hg', e_known]
      · have hg' : ¬ (200 : Int) < (L.length : Int) := by omega
        obtain ⟨e, H1, H2, vx', e1, e2, L', k1, s'⟩ := s.mergeSelf (by omega)
        obtain ⟨H3, g1, g2, g3⟩ := next _ _ _ _ _ _ _ _ _ s' (by omega) (by omega)
        refine ⟨H3, fun K => ?_⟩
        have g1 := g1 K
        rw [r_law_StatsPlays_0]
        simp (disch := first | with_reducible rfl | assumption | omega | rfl | (simp only [go_sem]; first | done | omega)) only [go_sem, ↓reduceIte, reduceCtorEq, Nat.reduceEqDiff, Nat.reduceAdd, Nat.reduceSub, Nat.reduceMul, Nat.reduceDiv, Nat.reduceMod, Nat.reduceLeDiff, Nat.reduceLT, Nat.reduceBEq, Int.reduceEq, Int.reduceBEq, Int.reduceBNe, Int.reduceLT, Int.reduceLE, Int.reduceAdd, Int.reduceSub, Int.reduceNeg, Int.reduceToNat, Int.reducePow, Nat.reducePow, Int.reduceMul, Int.reduceDiv, ↓s_law_StatsPlays_b0, hlen, hlt, ix, c0, w2, hfx, hlx, hg', ↓enterK_eq e1, enterK_eq e1, ↓enterK_eq e2, enterK_eq e2, decide_true, ↓enterK_eq g2, enterK_eq g2, ↓enterK_eq g3, enterK_eq g3]
        exact g1
    by_cases w3 : a.what = 3
    · obtain ⟨H3, g1, g2, g3⟩ := next _ _ _ _ _ _ _ _ _ s.swap (by omega) (by omega)
      refine ⟨H3, fun K => ?_⟩
      have g1 := g1 K
      rw [r_law_StatsPlays_0]
      simp (disch := first | with_reducible rfl | assumption | omega | rfl | (simp only [go_sem]; first | done | omega)) only [go_sem, ↓reduceIte, reduceCtorEq, Nat.reduceEqDiff, Nat.reduceAdd, Nat.reduceSub, Nat.reduceMul, Nat.reduceDiv, Nat.reduceMod, Nat.reduceLeDiff, Nat.reduceLT, Nat.reduceBEq, Int.reduceEq, Int.reduceBEq, Int.reduceBNe, Int.reduceLT, Int.reduceLE, Int.reduceAdd, Int.reduceSub, Int.reduceNeg, Int.reduceToNat, Int.reducePow, Nat.reducePow, Int.reduceMul, Int.reduceDiv, ↓s_law_StatsPlays_b0, hlen, hlt, ix, c0, w3, ↓enterK_eq g2, enterK_eq g2, ↓enterK_eq g3, enterK_eq g3]
      exact g1
    · obtain ⟨e, H1, H2, e1, e2, s'⟩ := s.copy
      obtain ⟨H3, g1, g2, g3⟩ := next _ _ _ _ _ _ _ _ _ s' (by omega) (by omega)
      refine ⟨H3, fun K => ?_⟩
      have g1 := g1 K
      rw [r_law_StatsPlays_0]
      simp (disch := first | with_reducible rfl | assumption | omega | rfl | (simp only [go_sem]; first | done | omega)) only [go_sem, ↓reduceIte, reduceCtorEq, Nat.reduceEqDiff, Nat.reduceAdd, Nat.reduceSub, Nat.reduceMul, Nat.reduceDiv, Nat.reduceMod, Nat.reduceLeDiff, Nat.reduceLT, Nat.reduceBEq, Int.reduceEq, Int.reduceBEq, Int.reduceBNe, Int.reduceLT, Int.reduceLE, Int.reduceAdd, Int.reduceSub, Int.reduceNeg, Int.reduceToNat, Int.reducePow, Nat.reducePow, Int.reduceMul, Int.reduceDiv, ↓s_law_StatsPlays_b0, hlen, hlt, ix, c0, w0, w1, w2, w3, ↓enterK_eq e1, enterK_eq e1, ↓enterK_eq e2, enterK_eq e2, ↓enterK_eq g2, enterK_eq g2, ↓enterK_eq g3, enterK_eq g3]
      exact g1
end

attribute [-go_sem] bldS
theorem q_StatsPlays (l : List Act) (v : Value) (H : AHeap) (ok : ∀ c, H.ver c < H.clk) (rl : Rd EAct H v l) (ov : ∀ c, blockOf v = some c → c < H.n) : ∃ H', CC F.law_StatsPlays [v] H = some (.bool true, H') := by
  have hll := rl.lenS
  by_cases h40 : 40 < l.length
  · have h' : (40 : Int) < (l.length : Int) := by omega
    refine any_of (H1 := H) (d_law_StatsPlays _ H ?_)
    simp (disch := first | with_reducible rfl | assumption | omega | rfl | (simp only [go_sem]; first | done | omega)) only [go_sem, ↓reduceIte, reduceCtorEq, Nat.reduceEqDiff, Nat.reduceAdd, Nat.reduceSub, Nat.reduceMul, Nat.reduceDiv, Nat.reduceMod, Nat.reduceLeDiff, Nat.reduceLT, Nat.reduceBEq, Int.reduceEq, Int.reduceBEq, Int.reduceBNe, Int.reduceLT, Int.reduceLE, Int.reduceAdd, Int.reduceSub, Int.reduceNeg, Int.reduceToNat, Int.reducePow, Nat.reducePow, Int.reduceMul, Int.reduceDiv, ↓s_law_StatsPlays, hll, h', e_known]
  have h40' : ¬ (40 : Int) < (l.length : Int) := by omega
  have z0 : ∀ H : AHeap, newv T.stats_Histogram (.agg #[(.int .i64 0), (.int .i64 0), (.int .i64 0), (.int .i64 0), (.int .i64 0), (.int .i64 0), (.int .i64 0), (.int .i64 0), (.int .i64 0), (.int .i64 0), (.int .i64 0), (.int .i64 0), (.int .i64 0), (.int .i64 0), (.int .i64 0), (.int .i64 0), (.int .i64 0), (.int .i64 0), (.int .i64 0), (.int .i64 0), (.int .i64 0), (.int .i64 0), (.int .i64 0), (.int .i64 0), (.int .i64 0), (.int .i64 0), (.int .i64 0), (.int .i64 0), (.int .i64 0), (.int .i64 0), (.int .i64 0), (.int .i64 0), (.int .i64 0), (.int .i64 0), (.int .i64 0), (.int .i64 0), (.int .i64 0), (.int .i64 0), (.int .i64 0), (.int .i64 0), (.int .i64 0), (.int .i64 0), (.int .i64 0), (.int .i64 0), (.int .i64 0), (.int .i64 0)]) H = some (.pointer (some ⟨H.n, 0, none⟩), H.push (HB (ofL (ex [])))) := fun _ => rfl
  obtain ⟨H1, hH1⟩ : ∃ H1, H.push (HB (ofL (ex []))) = H1 := ⟨_, rfl⟩
  obtain ⟨H2, hH2⟩ : ∃ H2, H1.push (HB (ofL (ex []))) = H2 := ⟨_, rfl⟩
  obtain ⟨H3, hH3⟩ : ∃ H3, H2.push (.cells [.slice none 0 0] T.ref26_Histogram true) = H3 := ⟨_, rfl⟩
  obtain ⟨H4, hH4⟩ : ∃ H4, H3.push (.cells [.slice none 0 0] T.ref26_Histogram true) = H4 := ⟨_, rfl⟩
  have n1 : H1.n = H.n + 1 := by rw [← hH1]; rfl
  have n2 : H2.n = H.n + 2 := by rw [← hH2]; show H1.n + 1 = _; omega
  have n3 : H3.n = H.n + 3 := by rw [← hH3]; show H2.n + 1 = _; omega
  have n4 : H4.n = H.n + 4 := by rw [← hH4]; show H3.n + 1 = _; omega
  have st : Still H H4 := by rw [← hH4, ← hH3, ← hH2, ← hH1]; exact ((((Fr.refl H).push _).push _).push _).push _
  have wn : Okc [] := ⟨fun p hp => by simp at hp, by decide, by decide⟩
  have s0 : PlS v l H.n H.n (H.n + 1) (H.n + 2) (H.n + 3) (.slice none 0 0) (.slice none 0 0) [] [] H4 := ⟨rl.still st, ov, st.ok ok, by omega, by omega, by omega, by omega, by omega,
    by rw [← hH4, push_f_ne (by omega), ← hH3, push_f_ne (by omega), ← hH2, push_f_ne (by omega), ← hH1]; exact push_f_eq rfl,
    by rw [← hH4, push_f_ne (by omega), ← hH3, push_f_ne (by omega), ← hH2]; exact push_f_eq n1.symm,
    by rw [← hH4, push_f_ne (by omega), ← hH3]; exact push_f_eq n2.symm,
    by rw [← hH4]; exact push_f_eq n3.symm, .inl ⟨rfl, rfl⟩, .inl ⟨rfl, rfl⟩, fun c hc => (by cases hc), fun c hc => (by cases hc), wn, wn⟩
  obtain ⟨H5, hl⟩ := l_plays (by omega) l 0 _ _ _ _ _ _ _ _ H4 rfl (Nat.zero_le _) s0 (by simp) (by simp)
  have hl : l_law_StatsPlays_0 v (pt H.n) (pt (H.n + 1)) (pt (H.n + 2)) (pt (H.n + 3)) (.int .i64 0) H4 (KK (endK Try.prog [.tmp 2])) = some (.bool true, H5) := hl _
  have bs : bldS #[(.slice none 0 0)] [(0, 1)] [] = some (.agg #[.slice none 0 0]) := rfl
  refine any_of (H1 := H5) (d_law_StatsPlays _ H ?_)
  simp (disch := first | with_reducible rfl | assumption | omega | rfl | (simp only [go_sem]; first | done | omega)) only [go_sem, ↓reduceIte, reduceCtorEq, Nat.reduceEqDiff, Nat.reduceAdd, Nat.reduceSub, Nat.reduceMul, Nat.reduceDiv, Nat.reduceMod, Nat.reduceLeDiff, Nat.reduceLT, Nat.reduceBEq, Int.reduceEq, Int.reduceBEq, Int.reduceBNe, Int.reduceLT, Int.reduceLE, Int.reduceAdd, Int.reduceSub, Int.reduceNeg, Int.reduceToNat, Int.reducePow, Nat.reducePow, Int.reduceMul, Int.reduceDiv, ↓s_law_StatsPlays, hll, h40', ↓z0, z0, hH1, hH2, hH3, hH4, n1, n2, n3, bldS_nil]
  exact hl

theorem slok_lt {e : TypeId} {H : AHeap} {v : Value} (h : SlOk e H v) : ∀ c, blockOf v = some c → c < H.n := by
  rcases h with rfl | ⟨b, o, n, code, rfl, _, _, h3⟩
  · intro c h; cases h
  · intro c h; cases h; exact h3

theorem run_StatsPlays (W : World) (v : Value) (l : List Act) (rl : RdS EAct T.law_Act (absHeap2 W) v l) (_ : ∀ x, x ∈ l → True) (_ : l.length ≤ maxLen) : ∃ k H', dCall Try.prog prims1 hints k F.law_StatsPlays [v] (absHeap2 W) = some (.bool true, H') := by
  obtain ⟨H', h⟩ := q_StatsPlays l v (absHeap2 W) (fun _ => Nat.zero_lt_one) rl.1 (slok_lt rl.2)
  obtain ⟨k, h⟩ := D_run h
  exact ⟨k, _, h⟩

theorem decAct {W : World} {H : Type} {enc : TypeId × Value → H} (_ : 0 < W.heap.size) {cs : List Value} {n : Nat} {y : DataW H × List MemPlace} (h : DataW.trod enc Try.prog W 0 (fun _ => true) true n T.law_Act cs = some y) (hl : cs.length = EAct.w) :
    ∃ a : Act, cs.map (conv2 W.heap.size) = EAct.enc a ∧ True := by
  have ht := Try.underlying74
  obtain ⟨c0, c1, c2, rfl⟩ : ∃ c0 c1 c2, cs = [c0, c1, c2] := by
    match cs, hl with
    | [c0, c1, c2], _ => exact ⟨_, _, _, rfl⟩
  obtain ⟨m0, z0, h0⟩ := dec_field ht h (i := 0) rfl rfl (by kernel_rfl) rfl
  obtain ⟨m1, z1, h1⟩ := dec_field ht h (i := 1) rfl rfl (by kernel_rfl) rfl
  obtain ⟨m2, z2, h2⟩ := dec_field ht h (i := 2) rfl rfl (by kernel_rfl) rfl
  obtain ⟨s0, rfl, _⟩ := dec_int Try.underlying3 h0
  obtain ⟨s1, rfl, _⟩ := dec_int Try.underlying3 h1
  obtain ⟨s2, rfl, _⟩ := dec_int Try.underlying3 h2
  exact ⟨⟨s0, s1, s2⟩, rfl, trivial⟩

end Go.Proofs.Ytplblfcofplcmaa

/-
  The law StatsPlays: for every input it returns true, and its input reads as it did.
  Conditions: none. By an AI agent.
-/
namespace Go.Proofs.Ytplblfcofplcmaa.statsPlays
open Go.ChangeShapes Go.WideShapes Go.ChangeAt Go.RowKit
open Go.ChangeMaps (open_string shut_string)
set_option linter.unusedVariables false
theorem own : ownKnob Try.prog.godebug = none := by kernel_rfl
theorem laidOut : laidOutB Try.prog = true := by kernel_rfl
set_option maxRecDepth 100000 in
theorem lifted (os : Os) (started : os.Started) (H : Type) (enc : TypeId × Value → H) :
    ReturnsInHanded {} Try.checked os 7 .any (Rows.statsPlaysSpec.pre6 enc Try.prog Try.f7 Rows.statsPlaysRow.domain false) (Rows.statsPlaysSpec.post enc Try.prog Try.f7 false true false false) := by
  refine returnsInHanded_of_change_sized (C := Try.checked) own started (by kernel_rfl) Try.func7
    (ChangeSpec.witness6 (enc := enc) (C := Try.checked) false ⟨#[], #[.slice none 0 0], []⟩ 8 (by kernel_rfl) (by kernel_rfl) (by kernel_rfl) (by kernel_rfl)) ?_
  intro W base args ds gs before hval0 hW hcnd hsz0 _
  have hsz : (DataW.weightsEach Try.prog (Try.f7.params.toList ++ Rows.statsPlaysSpec.plain.varTypes Try.prog) (ds ++ gs)).all (· ≤ reachBytes) = true := hsz0
  have hval : ∀ (j : Nat) t v, Try.f7.params[j]? = some t → args[j]? = some v → Value.okWide Try.prog W .any base t v := hval0
  have hW' := hW
  obtain ⟨p, q, hA0, hV, rfl, hfz, hnd⟩ := hW
  have hA : DataW.TrodAll enc Try.prog W 0 (fun _ => true) true Try.f7.params.toList args.toList ds p := hA0
  rw [Try.params7] at hA hval hsz
  obtain ⟨v0, vs0, d0, ds0, p0, q0, hargs, rfl, rfl, h0, r0⟩ := trodAll_cons hA
  obtain ⟨rfl, rfl, rfl⟩ := trodAll_nil r0
  obtain rfl : args = #[v0] := by cases args; simp_all
  obtain ⟨rfl, rfl⟩ := trodVars_none hV
  have k0 := h0
  have lt0 : ∀ x ∈ p0, x.block < W.heap.size := by obtain ⟨m, hm⟩ := k0; exact DataW.trod_lt m _ _ _ hm
  obtain ⟨l0, rd0, all0, len0⟩ := Eng.open_rd2 (t := 68) (e' := 74) Try.underlying68 (by kernel_rfl) (fun hp cs n y h hl => decAct hp h hl) (hval 0 68 v0 rfl rfl) k0
  refine (Eng.law_calls2 (args := #[v0]) prims1_ok mixed (fun _ hg => absurd hg List.not_mem_nil) (run_StatsPlays W (Eng.convA2 W.heap.size v0) l0 rd0 all0 len0)).mono fun e W' ⟨he, bel⟩ => ?_
  subst he
  exact ⟨_, rfl, _, _, _, [], _, [], hW', trodAll_mk1 (shut_bool Try.underlying4 _), (trodAll_cons_mk (Below.trod laidOut (by kernel_rfl) (of_decide_eq_true (by kernel_rfl)) k0 bel lt0) trodAll_mk0), rfl, bel.frame _, fun h => by cases h⟩

theorem over : Rows.statsPlaysRow.holds Try.pinned (OpenSpec.ofChange Rows.statsPlaysSpec) :=
  OpenClaim.holds_of_wide 7 Try.f7 rfl rfl rfl rfl rfl rfl rfl ⟨rfl, rfl, rfl, rfl, rfl⟩ rfl rfl rfl rfl rfl (by kernel_rfl) Try.func7 (by kernel_rfl)
    (of_decide_eq_true (by kernel_rfl)) (by unfold Func.isWrapper; first | (rw [if_pos (by decide +kernel)]; kernel_rfl) | (rw [if_neg (by decide +kernel)]; exact ⟨rfl, rfl⟩))
    (fun os started H enc _ => lifted os started H enc)
theorem proved : Rows.StatsPlaysSaid := over
#print axioms proved
end Go.Proofs.Ytplblfcofplcmaa.statsPlays
namespace Go.Proofs.Ytplblfcofplcmaa
/-- The row, under a short name, for the claim. -/
theorem statsPlays_holds : Rows.StatsPlaysSaid := statsPlays.proved
end Go.Proofs.Ytplblfcofplcmaa
