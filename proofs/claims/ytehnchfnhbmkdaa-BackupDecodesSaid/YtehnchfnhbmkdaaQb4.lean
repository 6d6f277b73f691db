/-
  4 texts in one (merge.py): L M N O.
  Conditions: none. By an AI agent.
-/
import Derived.Test.YtehnchfnhbmkdaaQb3

/-
  Chapter 48: Join.
  Conditions: none. By an AI agent.
-/
set_option maxRecDepth 10000
set_option linter.unusedSimpArgs false
set_option linter.unusedVariables false
namespace Go.Proofs.Ytehnchfnhbmkdaa
open Go Eng

theorem q_bEqual (a b : Value) (la lb : List UInt8) (H : AHeap) (ra : BR H a la) (rb : BR H b lb) : CC F.bytes_Equal [a, b] H = some (.bool (decide (la = lb)), H) := by
  have s1 := ra.str
  have s2 := rb.str
  apply pure_of _ (d_bytes_Equal _ _ H) rfl
  rotate_left 2
  · simp (disch := first | with_reducible rfl | assumption | omega | rfl | (simp only [go_sem]; first | done | omega)) only [go_sem, ↓reduceIte, reduceCtorEq, Nat.reduceEqDiff, Nat.reduceAdd, Nat.reduceSub, Nat.reduceMul, Nat.reduceDiv, Nat.reduceMod, Nat.reduceLeDiff, Nat.reduceLT, Nat.reduceBEq, Int.reduceEq, Int.reduceBEq, Int.reduceBNe, Int.reduceLT, Int.reduceLE, Int.reduceAdd, Int.reduceSub, Int.reduceNeg, Int.reduceToNat, Int.reducePow, Nat.reducePow, Int.reduceMul, Int.reduceDiv, ↓s_bytes_Equal, s1, s2, bl_mk]
    rfl
  · (repeat (first | exact Fr.refl _ | refine Fr.push ?_ _ | refine Fr.set ?_ _ _ (by intro h; first | omega | (simp only [go_sem] at h; omega))))

/-! ### How many bytes there are -/
def sumS (s : Int) (p : List UInt8) : Int := s + max 0 ((p.length : Int) - 8)
def sumP (ls : List (List UInt8)) : Int := ls.foldl sumS 0
theorem sum_le {M : Nat} : ∀ (ls : List (List UInt8)) (s : Int), (∀ p ∈ ls, p.length ≤ M) → ls.foldl sumS s ≤ s + ls.length * M ∧ s ≤ ls.foldl sumS s
  | [], s, _ => by simp
  | p :: t, s, h => by
    have hp := h p (by simp)
    have := sum_le t (sumS s p) fun q hq => h q (by simp [hq])
    unfold sumS at this
    rw [List.foldl_cons]
    unfold sumS
    simp only [List.length_cons, Int.natCast_add, Int.add_mul]
    omega

theorem l_J0 (ls : List (List UInt8)) (v : Value) (H : AHeap) (hr : Rds H v ls) (hl : ls.length ≤ 1000000) (M : Nat) (hM : M ≤ 5000000) (hsz : ∀ p ∈ ls, p.length ≤ M) : ∀ (t : List (List UInt8)) (i : Nat) (s : Int), ls.drop i = t → 0 ≤ s → s ≤ ((i * M : Nat) : Int) → ∀ K : K,
    l_backup_Join_0 v (.int .i64 s) v (.int .i64 (ls.length : Int)) (.int .i64 (i : Int)) H (blkK [0, 4] 0 K) = K .normal [(0, v), (4, .int .i64 (t.foldl sumS s))] H
  | [], i, s, hx, _, _, K => by
    have h : ls.length ≤ i := List.drop_eq_nil_iff.1 hx
    have hlt : ¬ (i : Int) < (ls.length : Int) := by omega
    rw [r_backup_Join_0]
    simp (disch := first | with_reducible rfl | assumption | omega | rfl | (simp only [go_sem]; first | done | omega)) only [go_sem, ↓reduceIte, reduceCtorEq, Nat.reduceEqDiff, Nat.reduceAdd, Nat.reduceSub, Nat.reduceMul, Nat.reduceDiv, Nat.reduceMod, Nat.reduceLeDiff, Nat.reduceLT, Nat.reduceBEq, Int.reduceEq, Int.reduceBEq, Int.reduceBNe, Int.reduceLT, Int.reduceLE, Int.reduceAdd, Int.reduceSub, Int.reduceNeg, Int.reduceToNat, Int.reducePow, Nat.reducePow, Int.reduceMul, Int.reduceDiv, ↓s_backup_Join_b0, hlt]
  | p :: t, i, s, hx, h0, h1, K => by
    obtain ⟨h, hxa, hx'⟩ := drop_cons hx
    have hlt : (i : Int) < (ls.length : Int) := by omega
    obtain ⟨b1, o1, y1, i1, c1, r1, _⟩ := hr.at h
    rw [hxa] at r1
    have hlp := r1.1.lenS
    have hpl := hsz p (by rw [← hxa]; exact List.getElem_mem _)
    have hmx : 0 ≤ max 0 ((p.length : Int) - 8) ∧ max 0 ((p.length : Int) - 8) ≤ M := by omega
    have hiM : (i + 1) * M = i * M + M := by rw [Nat.add_mul, Nat.one_mul]
    have hiM2 : i * M ≤ 1000000 * 5000000 := Nat.mul_le_mul (by omega) hM
    have ih := l_J0 ls v H hr hl M hM hsz t (i + 1) (sumS s p) hx' (by unfold sumS; omega) (by unfold sumS; omega) K
    have ha : ∀ ox oy, xbin Try.prog .add T.int ox oy (.int .i64 s) (.int .i64 (max 0 ((p.length : Int) - 8))) = some (.int .i64 (sumS s p)) := fun ox oy => add_i64 (by omega)
    rw [r_backup_Join_0]
    simp (disch := first | with_reducible rfl | assumption | omega | rfl | (simp only [go_sem]; first | done | omega)) only [go_sem, ↓reduceIte, reduceCtorEq, Nat.reduceEqDiff, Nat.reduceAdd, Nat.reduceSub, Nat.reduceMul, Nat.reduceDiv, Nat.reduceMod, Nat.reduceLeDiff, Nat.reduceLT, Nat.reduceBEq, Int.reduceEq, Int.reduceBEq, Int.reduceBNe, Int.reduceLT, Int.reduceLE, Int.reduceAdd, Int.reduceSub, Int.reduceNeg, Int.reduceToNat, Int.reducePow, Nat.reducePow, Int.reduceMul, Int.reduceDiv, ↓s_backup_Join_b0, hlt, i1, c1, hlp, ha]
    exact ih

/-! ### Which are pieces -/
theorem len42 {p : List UInt8} {k : Nat} : ((p.drop k).take 2).length ≤ 4 := by simp; omega
theorem l_J1 (ls : List (List UInt8)) (v : Value) (H : AHeap) (hr : Rds H v ls) (hl : ls.length ≤ 1000000) : ∀ (t : List (List UInt8)) (i : Nat), ls.drop i = t →
    (t.all okP = true → ∀ K : K, l_backup_Join_1 v v (.int .i64 (ls.length : Int)) (.int .i64 (i : Int)) H (blkK [0] 2 K) = K .normal [(0, v)] H) ∧
    (t.all okP = false → ∀ K : K, l_backup_Join_1 v v (.int .i64 (ls.length : Int)) (.int .i64 (i : Int)) H (blkK [0] 2 K) = K .ret [(2, .slice none 0 0), (3, .int .i64 12)] H)
  | [], i, hx => by
    have h : ls.length ≤ i := List.drop_eq_nil_iff.1 hx
    have hlt : ¬ (i : Int) < (ls.length : Int) := by omega
    exact ⟨fun _ K => by rw [r_backup_Join_1]; simp (disch := first | with_reducible rfl | assumption | omega | rfl | (simp only [go_sem]; first | done | omega)) only [go_sem, ↓reduceIte, reduceCtorEq, Nat.reduceEqDiff, Nat.reduceAdd, Nat.reduceSub, Nat.reduceMul, Nat.reduceDiv, Nat.reduceMod, Nat.reduceLeDiff, Nat.reduceLT, Nat.reduceBEq, Int.reduceEq, Int.reduceBEq, Int.reduceBNe, Int.reduceLT, Int.reduceLE, Int.reduceAdd, Int.reduceSub, Int.reduceNeg, Int.reduceToNat, Int.reducePow, Nat.reducePow, Int.reduceMul, Int.reduceDiv, ↓s_backup_Join_b1, hlt], fun h => by simp at h⟩
  | p :: t, i, hx => by
    obtain ⟨h, hxa, hx'⟩ := drop_cons hx
    have hlt : (i : Int) < (ls.length : Int) := by omega
    obtain ⟨b1, o1, y1, i1, c1, r1, _⟩ := hr.at h
    rw [hxa] at r1
    have hlp := r1.1.lenS
    obtain ⟨k1, k2⟩ := l_J1 ls v H hr hl t (i + 1) hx'
    rw [List.all_cons]
    by_cases h8 : p.length < 8
    · have h8' : (p.length : Int) < 8 := by omega
      have ho : okP p = false := by unfold okP; simp; omega
      rw [ho]
      refine ⟨fun h2 => by simp at h2, fun h2 K => ?_⟩
      rw [r_backup_Join_1]
      simp (disch := first | with_reducible rfl | assumption | omega | rfl | (simp only [go_sem]; first | done | omega)) only [go_sem, ↓reduceIte, reduceCtorEq, Nat.reduceEqDiff, Nat.reduceAdd, Nat.reduceSub, Nat.reduceMul, Nat.reduceDiv, Nat.reduceMod, Nat.reduceLeDiff, Nat.reduceLT, Nat.reduceBEq, Int.reduceEq, Int.reduceBEq, Int.reduceBNe, Int.reduceLT, Int.reduceLE, Int.reduceAdd, Int.reduceSub, Int.reduceNeg, Int.reduceToNat, Int.reducePow, Nat.reducePow, Int.reduceMul, Int.reduceDiv, ↓s_backup_Join_b1, hlt, i1, c1, hlp, h8']
    · have h8' : ¬ (p.length : Int) < 8 := by omega
      obtain ⟨v4, s4, r4, _⟩ := r1.mid (sz := 1) rfl (i := 4) (j := 6) (q := .i64) (q' := .i64) (by decide) (by omega)
      obtain ⟨v6, s6, r6, _⟩ := r1.mid (sz := 1) rfl (i := 6) (j := 8) (q := .i64) (q' := .i64) (by decide) (by omega)
      have n4 := q_number _ v4 H r4.1 len42
      have n6 := q_number _ v6 H r6.1 len42
      have s4 : slS T.uint8 1 y1 (some (.int .i64 4)) (some (.int .i64 6)) none H = some v4 := s4
      have s6 : slS T.uint8 1 y1 (some (.int .i64 6)) (some (.int .i64 8)) none H = some v6 := s6
      have n4 : CC F.backup_number [v4] H = some (.int .u32 (prI p), H) := n4
      have n6 : CC F.backup_number [v6] H = some (.int .u32 (prN p), H) := n6
      by_cases hlt2 : prN p ≤ prI p
      · have ho : okP p = false := by unfold okP; simp; omega
        rw [ho]
        refine ⟨fun h2 => by simp at h2, fun h2 K => ?_⟩
        rw [r_backup_Join_1]
        simp (disch := first | with_reducible rfl | assumption | omega | rfl | (simp only [go_sem]; first | done | omega)) only [go_sem, ↓reduceIte, reduceCtorEq, Nat.reduceEqDiff, Nat.reduceAdd, Nat.reduceSub, Nat.reduceMul, Nat.reduceDiv, Nat.reduceMod, Nat.reduceLeDiff, Nat.reduceLT, Nat.reduceBEq, Int.reduceEq, Int.reduceBEq, Int.reduceBNe, Int.reduceLT, Int.reduceLE, Int.reduceAdd, Int.reduceSub, Int.reduceNeg, Int.reduceToNat, Int.reducePow, Nat.reducePow, Int.reduceMul, Int.reduceDiv, ↓s_backup_Join_b1, hlt, i1, c1, hlp, h8', s4, enterK_eq n4, s6, enterK_eq n6, hlt2]
      · have ho : okP p = true := by unfold okP; simp; omega
        rw [ho]
        refine ⟨fun h2 K => ?_, fun h2 K => ?_⟩
        · have := k1 (by simpa using h2) K
          rw [r_backup_Join_1]
          simp (disch := first | with_reducible rfl | assumption | omega | rfl | (simp only [go_sem]; first | done | omega)) only [go_sem, ↓reduceIte, reduceCtorEq, Nat.reduceEqDiff, Nat.reduceAdd, Nat.reduceSub, Nat.reduceMul, Nat.reduceDiv, Nat.reduceMod, Nat.reduceLeDiff, Nat.reduceLT, Nat.reduceBEq, Int.reduceEq, Int.reduceBEq, Int.reduceBNe, Int.reduceLT, Int.reduceLE, Int.reduceAdd, Int.reduceSub, Int.reduceNeg, Int.reduceToNat, Int.reducePow, Nat.reducePow, Int.reduceMul, Int.reduceDiv, ↓s_backup_Join_b1, hlt, i1, c1, hlp, h8', s4, enterK_eq n4, s6, enterK_eq n6, hlt2]
          exact this
        · have := k2 (by simpa using h2) K
          rw [r_backup_Join_1]
          simp (disch := first | with_reducible rfl | assumption | omega | rfl | (simp only [go_sem]; first | done | omega)) only [go_sem, ↓reduceIte, reduceCtorEq, Nat.reduceEqDiff, Nat.reduceAdd, Nat.reduceSub, Nat.reduceMul, Nat.reduceDiv, Nat.reduceMod, Nat.reduceLeDiff, Nat.reduceLT, Nat.reduceBEq, Int.reduceEq, Int.reduceBEq, Int.reduceBNe, Int.reduceLT, Int.reduceLE, Int.reduceAdd, Int.reduceSub, Int.reduceNeg, Int.reduceToNat, Int.reducePow, Nat.reducePow, Int.reduceMul, Int.reduceDiv, ↓s_backup_Join_b1, hlt, i1, c1, hlp, h8', s4, enterK_eq n4, s6, enterK_eq n6, hlt2]
          exact this

/-! ### The map -/
theorem mapT : MapT Try.prog (kInt .u32) T.map_uint32_uint8 (.slice none 0 0) := ⟨_, _, Try.underlying86, by kernel_rfl, by kernel_rfl⟩
def RJ (n : Nat) (H : AHeap) (v : Value) (s : List UInt8) : Prop := BR H v s ∧ ∀ b, blockOf v = some b → b < n
theorem RJ.keep {n : Nat} {H H' : AHeap} {S : Nat → Prop} (h : Fr S H H') (hs : ∀ b, S b → n ≤ b) (v : Value) (s : List UInt8) (r : RJ n H v s) : RJ n H' v s := ⟨r.1.keep h fun b hb h2 => by have := r.2 b hb; have := hs b h2; omega, r.2⟩
abbrev EntJ (n : Nat) (H : AHeap) (ents : List (Value × Value)) (es : List (Int × List UInt8)) : Prop := Ent (RJ n H) (kInt .u32).kv ents es

structure MapJ (H0 H : AHeap) (bm : Nat) (es : List (Int × List UInt8)) : Prop where
  still : Still H0 H
  new : H0.n ≤ bm
  lt : bm < H.n
  ent : ∃ ents, H.f bm = .map ents ∧ EntJ H0.n H ents es

theorem MapJ.put {H0 H : AHeap} {bm : Nat} {es : List (Int × List UInt8)} (m : MapJ H0 H bm es) (k : Int) {v : Value} {s : List UInt8} (hv : RJ H0.n H v s) :
    ∃ H', xmapUpdate Try.prog T.map_uint32_uint8 (.map (some bm)) (.int .u32 k) v H = some H' ∧ MapJ H0 H' bm (putE es k s) := by
  obtain ⟨ents, hf, he⟩ := m.ent
  have hfr : Fr (fun x => x = bm) H (H.set bm (.map (mput ents (.int .u32 k) v))) := Fr.set (Fr.refl H) _ _ fun _ => rfl
  refine ⟨_, upd_map mapT hf he k v, m.still.then hfr fun b hb h => by have := m.new; omega, m.new, m.lt, _, set_f_eq, ?_⟩
  exact Ent.mono (fun v' s' r => ⟨r.1.keep hfr fun b hb h2 => by have := r.2 b hb; have := m.new; omega, r.2⟩) (he.put (k := k) hv)

set_option maxHeartbeats 4000000 in
theorem l_J2 (ls : List (List UInt8)) (v : Value) (H0 : AHeap) (hr : Rds H0 v ls) (hl : ls.length ≤ 1000000) (hok : ls.all okP = true) (p0 : List UInt8) (t0 : List (List UInt8)) (hls : ls = p0 :: t0) (bm : Nat) : ∀ (t : List (List UInt8)) (i : Nat) (H : AHeap), ls.drop i = t → Cons (ls.take i) → MapJ H0 H bm (esOf (ls.take i)) →
    (ok11 (prX p0) (prN p0) (ls.take i) t = true → ∃ H', MapJ H0 H' bm (esOf ls) ∧ ∀ K : K, l_backup_Join_2 v (.map (some bm)) v (.int .i64 (ls.length : Int)) (.int .i64 (i : Int)) H (blkK [0, 9] 4 K) = K .normal [(0, v), (9, .map (some bm))] H') ∧
    (ok11 (prX p0) (prN p0) (ls.take i) t = false → ∃ H', Still H0 H' ∧ ∀ K : K, l_backup_Join_2 v (.map (some bm)) v (.int .i64 (ls.length : Int)) (.int .i64 (i : Int)) H (blkK [0, 9] 4 K) = K .ret [(2, .slice none 0 0), (3, .int .i64 11)] H')
  | [], i, H, hx, hc, m => by
    have h : ls.length ≤ i := List.drop_eq_nil_iff.1 hx
    have hlt : ¬ (i : Int) < (ls.length : Int) := by omega
    rw [List.take_of_length_le h] at m
    exact ⟨fun _ => ⟨H, m, fun K => by rw [r_backup_Join_2]; simp (disch := first | with_reducible rfl | assumption | omega | rfl | (simp only [go_sem]; first | done | omega)) only [go_sem, ↓reduceIte, reduceCtorEq, Nat.reduceEqDiff, Nat.reduceAdd, Nat.reduceSub, Nat.reduceMul, Nat.reduceDiv, Nat.reduceMod, Nat.reduceLeDiff, Nat.reduceLT, Nat.reduceBEq, Int.reduceEq, Int.reduceBEq, Int.reduceBNe, Int.reduceLT, Int.reduceLE, Int.reduceAdd, Int.reduceSub, Int.reduceNeg, Int.reduceToNat, Int.reducePow, Nat.reducePow, Int.reduceMul, Int.reduceDiv, ↓s_backup_Join_b2, hlt]⟩, fun h => by simp [ok11] at h⟩
  | p :: t, i, H, hx, hc, m => by
    obtain ⟨h, hxa, hx'⟩ := drop_cons hx
    have hlt : (i : Int) < (ls.length : Int) := by omega
    have hr1 := hr.still m.still
    obtain ⟨b1, o1, y1, i1, c1, r1, _⟩ := hr1.at h
    rw [hxa] at r1
    have hpos : 0 < ls.length := by omega
    obtain ⟨b0, o0, y0, i0, c0, r0, _⟩ := hr1.at hpos
    have hp0 : ls[0] = p0 := by simp [hls]
    rw [hp0] at r0
    have i0 : ixS 1 v (.int .i64 0) = some (.pointer (some ⟨b0, o0, none⟩)) := i0
    have hop : okP p = true := List.all_eq_true.1 hok p (by rw [← hxa]; exact List.getElem_mem _)
    have hop0 : okP p0 = true := List.all_eq_true.1 hok p0 (by rw [hls]; simp)
    have l8 := (okP_len hop).1
    have l80 := (okP_len hop0).1
    obtain ⟨v4, s4, r4, _⟩ := r1.mid (sz := 1) rfl (i := 4) (j := 6) (q := .i64) (q' := .i64) (by decide) (by omega)
    obtain ⟨v6, s6, r6, _⟩ := r1.mid (sz := 1) rfl (i := 6) (j := 8) (q := .i64) (q' := .i64) (by decide) (by omega)
    obtain ⟨vx, sx, rx, _⟩ := r1.to (sz := 1) rfl (j := 4) (q := .i64) (by omega)
    obtain ⟨v8, s8, r8, b8⟩ := r1.from (sz := 1) rfl (i := 8) (q := .i64) (by omega)
    obtain ⟨w6, z6, u6, _⟩ := r0.mid (sz := 1) rfl (i := 6) (j := 8) (q := .i64) (q' := .i64) (by decide) (by omega)
    obtain ⟨wx, zx, ux, _⟩ := r0.to (sz := 1) rfl (j := 4) (q := .i64) (by omega)
    have n4 : CC F.backup_number [v4] H = some (.int .u32 (prI p), H) := q_number _ v4 H r4.1 len42
    have n6 : CC F.backup_number [v6] H = some (.int .u32 (prN p), H) := q_number _ v6 H r6.1 len42
    have nx : CC F.backup_number [vx] H = some (.int .u32 (prX p), H) := q_number _ vx H rx.1 (by simp; omega)
    have m6 : CC F.backup_number [w6] H = some (.int .u32 (prN p0), H) := q_number _ w6 H u6.1 len42
    have mx : CC F.backup_number [wx] H = some (.int .u32 (prX p0), H) := q_number _ wx H ux.1 (by simp; omega)
    have s4 : slS T.uint8 1 y1 (some (.int .i64 4)) (some (.int .i64 6)) none H = some v4 := s4
    have s6 : slS T.uint8 1 y1 (some (.int .i64 6)) (some (.int .i64 8)) none H = some v6 := s6
    have sx : slS T.uint8 1 y1 none (some (.int .i64 4)) none H = some vx := sx
    have s8 : slS T.uint8 1 y1 (some (.int .i64 8)) none none H = some v8 := s8
    have z6 : slS T.uint8 1 y0 (some (.int .i64 6)) (some (.int .i64 8)) none H = some w6 := z6
    have zx : slS T.uint8 1 y0 none (some (.int .i64 4)) none H = some wx := zx
    have hr0 := (hr.at h)
    have hb8 : ∀ b, blockOf v8 = some b → b < H0.n := fun b hb => by
      obtain ⟨b1', o1', y1', i1', c1', r1', hb1', hbv'⟩ := hr0
      rw [i1] at i1'
      cases i1'
      rw [m.still.f hb1' (fun h => h)] at c1
      rw [c1] at c1'
      cases c1'
      rw [b8] at hb
      rcases r1'.2 with h' | ⟨b', o, n', code, h', _, _, h3⟩
      · rw [h'] at hb; cases hb
      · rw [h'] at hb; cases hb; exact h3
    obtain ⟨ents, hf, he⟩ := m.ent
    have htk : ls.take (i + 1) = ls.take i ++ [p] := by rw [← hxa]; exact List.take_succ_eq_append_getElem h
    rw [ok11]
    have hag := hc.ag p
    by_cases e1 : prX p = prX p0
    · have e1' : (prX p = prX p0) = True := by simp [e1]
      by_cases e2 : prN p = prN p0
      · have e2' : (prN p = prN p0) = True := by simp [e2]
        -- what the next rounds do
        have next : (ls.take i).all (agP p) = true → ∃ H1, xmapUpdate Try.prog T.map_uint32_uint8 (.map (some bm)) (.int .u32 (prI p)) v8 H = some H1 ∧ cdP (ls.take i) (prX p0) (prN p0) p = true ∧
            (ok11 (prX p0) (prN p0) (ls.take i ++ [p]) t = true → ∃ H', MapJ H0 H' bm (esOf ls) ∧ ∀ K : Eng.K, l_backup_Join_2 v (.map (some bm)) v (.int .i64 (ls.length : Int)) (.int .i64 ((i + 1 : Nat) : Int)) H1 (blkK [0, 9] 4 K) = K .normal [(0, v), (9, .map (some bm))] H') ∧
            (ok11 (prX p0) (prN p0) (ls.take i ++ [p]) t = false → ∃ H', Still H0 H' ∧ ∀ K : Eng.K, l_backup_Join_2 v (.map (some bm)) v (.int .i64 (ls.length : Int)) (.int .i64 ((i + 1 : Nat) : Int)) H1 (blkK [0, 9] 4 K) = K .ret [(2, .slice none 0 0), (3, .int .i64 11)] H') := fun ha => by
          obtain ⟨H1, u1, m1⟩ := m.put (prI p) (v := v8) ⟨r8, hb8⟩
          rw [← esOf_snoc, ← htk] at m1
          have ih := l_J2 ls v H0 hr hl hok p0 t0 hls bm t (i + 1) H1 hx' (by rw [htk]; exact hc.snoc ha) m1
          rw [htk] at ih
          exact ⟨H1, u1, by simp [cdP, e1, e2, ha], ih⟩
        cases hk : lkp (esOf (ls.take i)) (prI p) with
        | none =>
          have ha := hag.2 (.inl hk)
          obtain ⟨H1, u1, hcd, g1, g2⟩ := next ha
          have hlook : xlookup Try.prog T.map_uint32_uint8 (.map (some bm)) (.int .u32 (prI p)) true H = some (.tuple #[.slice none 0 0, .bool false]) := look_none mapT hf he hk true
          rw [hcd, Bool.true_and]
          refine ⟨fun h2 => ?_, fun h2 => ?_⟩
          · obtain ⟨H', m', e'⟩ := g1 h2
            refine ⟨H', m', fun K => ?_⟩
            have := e' K
            rw [r_backup_Join_2]
            simp (disch := first | with_reducible rfl | assumption | omega | rfl | (simp only [go_sem]; first | done | omega)) only [go_sem, ↓reduceIte, reduceCtorEq, Nat.reduceEqDiff, Nat.reduceAdd, Nat.reduceSub, Nat.reduceMul, Nat.reduceDiv, Nat.reduceMod, Nat.reduceLeDiff, Nat.reduceLT, Nat.reduceBEq, Int.reduceEq, Int.reduceBEq, Int.reduceBNe, Int.reduceLT, Int.reduceLE, Int.reduceAdd, Int.reduceSub, Int.reduceNeg, Int.reduceToNat, Int.reducePow, Nat.reducePow, Int.reduceMul, Int.reduceDiv, ↓s_backup_Join_b2, hlt, i1, c1, s4, enterK_eq n4, hlook, sx, enterK_eq nx, i0, c0, zx, enterK_eq mx, s6, enterK_eq n6, z6, enterK_eq m6, e1', e2', s8, u1]
            exact this
          · obtain ⟨H', m', e'⟩ := g2 h2
            refine ⟨H', m', fun K => ?_⟩
            have := e' K
            rw [r_backup_Join_2]
            simp (disch := first | with_reducible rfl | assumption | omega | rfl | (simp only [go_sem]; first | done | omega)) only [go_sem, ↓reduceIte, reduceCtorEq, Nat.reduceEqDiff, Nat.reduceAdd, Nat.reduceSub, Nat.reduceMul, Nat.reduceDiv, Nat.reduceMod, Nat.reduceLeDiff, Nat.reduceLT, Nat.reduceBEq, Int.reduceEq, Int.reduceBEq, Int.reduceBNe, Int.reduceLT, Int.reduceLE, Int.reduceAdd, Int.reduceSub, Int.reduceNeg, Int.reduceToNat, Int.reducePow, Nat.reducePow, Int.reduceMul, Int.reduceDiv, ↓s_backup_Join_b2, hlt, i1, c1, s4, enterK_eq n4, hlook, sx, enterK_eq nx, i0, c0, zx, enterK_eq mx, s6, enterK_eq n6, z6, enterK_eq m6, e1', e2', s8, u1]
            exact this
        | some s =>
          obtain ⟨vo, hlook, ro⟩ := look_some mapT hf he hk true
          have hlook : xlookup Try.prog T.map_uint32_uint8 (.map (some bm)) (.int .u32 (prI p)) true H = some (.tuple #[vo, .bool true]) := hlook
          have heq := q_bEqual vo v8 s (p.drop 8) H ro.1 r8
          by_cases hs : s = p.drop 8
          · have ha := hag.2 (.inr (by rw [hk, hs]))
            obtain ⟨H1, u1, hcd, g1, g2⟩ := next ha
            rw [decide_eq_true hs] at heq
            rw [hcd, Bool.true_and]
            refine ⟨fun h2 => ?_, fun h2 => ?_⟩
            · obtain ⟨H', m', e'⟩ := g1 h2
              refine ⟨H', m', fun K => ?_⟩
              have := e' K
              rw [r_backup_Join_2]
              simp (disch := first | with_reducible rfl | assumption | omega | rfl | (simp only [go_sem]; first | done | omega)) only [go_sem, ↓reduceIte, reduceCtorEq, Nat.reduceEqDiff, Nat.reduceAdd, Nat.reduceSub, Nat.reduceMul, Nat.reduceDiv, Nat.reduceMod, Nat.reduceLeDiff, Nat.reduceLT, Nat.reduceBEq, Int.reduceEq, Int.reduceBEq, Int.reduceBNe, Int.reduceLT, Int.reduceLE, Int.reduceAdd, Int.reduceSub, Int.reduceNeg, Int.reduceToNat, Int.reducePow, Nat.reducePow, Int.reduceMul, Int.reduceDiv, ↓s_backup_Join_b2, hlt, i1, c1, s4, enterK_eq n4, hlook, sx, enterK_eq nx, i0, c0, zx, enterK_eq mx, s6, enterK_eq n6, z6, enterK_eq m6, e1', e2', s8, enterK_eq heq, u1]
              exact this
            · obtain ⟨H', m', e'⟩ := g2 h2
              refine ⟨H', m', fun K => ?_⟩
              have := e' K
              rw [r_backup_Join_2]
              simp (disch := first | with_reducible rfl | assumption | omega | rfl | (simp only [go_sem]; first | done | omega)) only [go_sem, ↓reduceIte, reduceCtorEq, Nat.reduceEqDiff, Nat.reduceAdd, Nat.reduceSub, Nat.reduceMul, Nat.reduceDiv, Nat.reduceMod, Nat.reduceLeDiff, Nat.reduceLT, Nat.reduceBEq, Int.reduceEq, Int.reduceBEq, Int.reduceBNe, Int.reduceLT, Int.reduceLE, Int.reduceAdd, Int.reduceSub, Int.reduceNeg, Int.reduceToNat, Int.reducePow, Nat.reducePow, Int.reduceMul, Int.reduceDiv, ↓s_backup_Join_b2, hlt, i1, c1, s4, enterK_eq n4, hlook, sx, enterK_eq nx, i0, c0, zx, enterK_eq mx, s6, enterK_eq n6, z6, enterK_eq m6, e1', e2', s8, enterK_eq heq, u1]
              exact this
          · rw [decide_eq_false hs] at heq
            have hna : (ls.take i).all (agP p) = false := by
              cases hq : (ls.take i).all (agP p) with
              | false => rfl
              | true =>
                rcases hag.1 hq with h3 | h3
                · rw [hk] at h3; cases h3
                · rw [hk] at h3; cases h3; exact absurd rfl hs
            have ec : cdP (ls.take i) (prX p0) (prN p0) p = false := by simp [cdP, hna]
            rw [ec]
            refine ⟨fun h2 => by simp at h2, fun _ => ⟨H, m.still, fun K => ?_⟩⟩
            rw [r_backup_Join_2]
            simp (disch := first | with_reducible rfl | assumption | omega | rfl | (simp only [go_sem]; first | done | omega)) only [go_sem, ↓reduceIte, reduceCtorEq, Nat.reduceEqDiff, Nat.reduceAdd, Nat.reduceSub, Nat.reduceMul, Nat.reduceDiv, Nat.reduceMod, Nat.reduceLeDiff, Nat.reduceLT, Nat.reduceBEq, Int.reduceEq, Int.reduceBEq, Int.reduceBNe, Int.reduceLT, Int.reduceLE, Int.reduceAdd, Int.reduceSub, Int.reduceNeg, Int.reduceToNat, Int.reducePow, Nat.reducePow, Int.reduceMul, Int.reduceDiv, ↓s_backup_Join_b2, hlt, i1, c1, s4, enterK_eq n4, hlook, sx, enterK_eq nx, i0, c0, zx, enterK_eq mx, s6, enterK_eq n6, z6, enterK_eq m6, e1', e2', s8, enterK_eq heq]
      · have ec : cdP (ls.take i) (prX p0) (prN p0) p = false := by simp [cdP, e2]
        rw [ec]
        refine ⟨fun h2 => by simp at h2, fun _ => ⟨H, m.still, fun K => ?_⟩⟩
        obtain ⟨w, iw, hlook⟩ : ∃ w iw, xlookup Try.prog T.map_uint32_uint8 (.map (some bm)) (.int .u32 (prI p)) true H = some (.tuple #[w, .bool iw]) := by
          cases hk : lkp (esOf (ls.take i)) (prI p) with
          | none => exact ⟨_, _, look_none mapT hf he hk true⟩
          | some s => obtain ⟨vo, h1, _⟩ := look_some mapT hf he hk true; exact ⟨_, _, h1⟩
        rw [r_backup_Join_2]
        simp (disch := first | with_reducible rfl | assumption | omega | rfl | (simp only [go_sem]; first | done | omega)) only [go_sem, ↓reduceIte, reduceCtorEq, Nat.reduceEqDiff, Nat.reduceAdd, Nat.reduceSub, Nat.reduceMul, Nat.reduceDiv, Nat.reduceMod, Nat.reduceLeDiff, Nat.reduceLT, Nat.reduceBEq, Int.reduceEq, Int.reduceBEq, Int.reduceBNe, Int.reduceLT, Int.reduceLE, Int.reduceAdd, Int.reduceSub, Int.reduceNeg, Int.reduceToNat, Int.reducePow, Nat.reducePow, Int.reduceMul, Int.reduceDiv, ↓s_backup_Join_b2, hlt, i1, c1, s4, enterK_eq n4, hlook, sx, enterK_eq nx, i0, c0, zx, enterK_eq mx, s6, enterK_eq n6, z6, enterK_eq m6, e1', e2]
    · have ec : cdP (ls.take i) (prX p0) (prN p0) p = false := by simp [cdP, e1]
      rw [ec]
      refine ⟨fun h2 => by simp at h2, fun _ => ⟨H, m.still, fun K => ?_⟩⟩
      obtain ⟨w, iw, hlook⟩ : ∃ w iw, xlookup Try.prog T.map_uint32_uint8 (.map (some bm)) (.int .u32 (prI p)) true H = some (.tuple #[w, .bool iw]) := by
        cases hk : lkp (esOf (ls.take i)) (prI p) with
        | none => exact ⟨_, _, look_none mapT hf he hk true⟩
        | some s => obtain ⟨vo, h1, _⟩ := look_some mapT hf he hk true; exact ⟨_, _, h1⟩
      rw [r_backup_Join_2]
      simp (disch := first | with_reducible rfl | assumption | omega | rfl | (simp only [go_sem]; first | done | omega)) only [go_sem, ↓reduceIte, reduceCtorEq, Nat.reduceEqDiff, Nat.reduceAdd, Nat.reduceSub, Nat.reduceMul, Nat.reduceDiv, Nat.reduceMod, Nat.reduceLeDiff, Nat.reduceLT, Nat.reduceBEq, Int.reduceEq, Int.reduceBEq, Int.reduceBNe, Int.reduceLT, Int.reduceLE, Int.reduceAdd, Int.reduceSub, Int.reduceNeg, Int.reduceToNat, Int.reducePow, Nat.reducePow, Int.reduceMul, Int.reduceDiv, ↓s_backup_Join_b2, hlt, i1, c1, s4, enterK_eq n4, hlook, sx, enterK_eq nx, i0, c0, zx, enterK_eq mx, e1]

end Go.Proofs.Ytehnchfnhbmkdaa

/-
  Chapter 48: Join, whole.
  Conditions: none. By an AI agent.
-/
set_option maxRecDepth 10000
set_option linter.unusedSimpArgs false
set_option linter.unusedVariables false
namespace Go.Proofs.Ytehnchfnhbmkdaa
open Go Eng

theorem l_J3 (ls : List (List UInt8)) (v : Value) (H1 : AHeap) (bm : Nat) (hbm : bm < H1.n) (n0 : Nat) (ents : List (Value × Value)) (hf : H1.f bm = .map ents) (he : EntJ n0 H1 ents (esOf ls)) (hc : Cons ls) (hsz : ∀ p ∈ ls, p.length ≤ 5000000) (n : Nat) (hn : n ≤ 65536) (oo : List UInt8) (hoo : outs ls n = some oo) : ∀ (m k : Nat) (H : AHeap) (out : Value) (o : List UInt8), k + m = n → outs ls k = some o → Since H1 H out o →
    ∃ out' H', Since H1 H' out' oo ∧ ∀ K : K, l_backup_Join_3 v (.map (some bm)) out (.int .i64 (n : Int)) (.int .i64 (k : Int)) H (blkK [0, 15] 6 K) = K .normal [(0, v), (15, out')] H'
  | 0, k, H, out, o, hkm, ho, so => by
    obtain rfl : k = n := by omega
    have hlt : ¬ (k : Int) < (k : Int) := by omega
    rw [ho] at hoo; cases hoo
    refine ⟨out, H, so, fun K => ?_⟩
    rw [r_backup_Join_3]
    simp (disch := first | with_reducible rfl | assumption | omega | rfl | (simp only [go_sem]; first | done | omega)) only [go_sem, ↓reduceIte, reduceCtorEq, Nat.reduceEqDiff, Nat.reduceAdd, Nat.reduceSub, Nat.reduceMul, Nat.reduceDiv, Nat.reduceMod, Nat.reduceLeDiff, Nat.reduceLT, Nat.reduceBEq, Int.reduceEq, Int.reduceBEq, Int.reduceBNe, Int.reduceLT, Int.reduceLE, Int.reduceAdd, Int.reduceSub, Int.reduceNeg, Int.reduceToNat, Int.reducePow, Nat.reducePow, Int.reduceMul, Int.reduceDiv, ↓s_backup_Join_b3, hlt]
  | m + 1, k, H, out, o, hkm, ho, so => by
    have hlt : (k : Int) < (n : Int) := by omega
    have hol := outs_len hsz ho
    have hsome := outs_some.1 (by rw [hoo]; rfl : (outs ls n).isSome = true) k (by omega)
    obtain ⟨s, hs⟩ := Option.isSome_iff_exists.1 hsome
    have hk : lkp (esOf ls) (k : Int) = some s := by rw [← fnd_lkp hc]; exact hs
    have hfH : H.f bm = .map ents := by rw [so.still.f hbm (fun h => h)]; exact hf
    have heH : EntJ n0 H ents (esOf ls) := Ent.mono (fun v s r => ⟨r.1.still so.still, r.2⟩) he
    obtain ⟨w, hlook, rw_⟩ := look_some mapT hfH heH hk false
    have hlook : xlookup Try.prog T.map_uint32_uint8 (.map (some bm)) (.int .u32 (k : Int)) false H = some w := hlook
    obtain ⟨p, hp, _, hps⟩ := fnd_len hs
    have hsl : s.length ≤ 5000000 := by have := hsz p hp; rw [hps]; simp; omega
    obtain ⟨out1, H2, a1, so1⟩ := so.app s (rw_.1.1.src (sz := 1) rfl) (by omega)
    have hk1 : outs ls (k + 1) = some (o ++ s) := by rw [outs, ho, hs]; rfl
    obtain ⟨out', H', so', e2⟩ := l_J3 ls v H1 bm hbm n0 ents hf he hc hsz n hn oo hoo m (k + 1) H2 out1 (o ++ s) (by omega) hk1 so1
    refine ⟨out', H', so', fun K => ?_⟩
    have := e2 K
    have hw : IntKind.wrap .u32 (k : Int) = (k : Int) := wrap_u32 ⟨by omega, by omega⟩
    rw [r_backup_Join_3]
    simp (disch := first | with_reducible rfl | assumption | omega | rfl | (simp only [go_sem]; first | done | omega)) only [go_sem, ↓reduceIte, reduceCtorEq, Nat.reduceEqDiff, Nat.reduceAdd, Nat.reduceSub, Nat.reduceMul, Nat.reduceDiv, Nat.reduceMod, Nat.reduceLeDiff, Nat.reduceLT, Nat.reduceBEq, Int.reduceEq, Int.reduceBEq, Int.reduceBNe, Int.reduceLT, Int.reduceLE, Int.reduceAdd, Int.reduceSub, Int.reduceNeg, Int.reduceToNat, Int.reducePow, Nat.reducePow, Int.reduceMul, Int.reduceDiv, ↓s_backup_Join_b3, hlt, x_int_uint32, hw, hlook, a1]
    exact this

/-- What a call hands back: bytes and a number. -/
theorem keep_pair {H H' : AHeap} {out : Value} {o : List UInt8} {n : Int} {H0 : AHeap} (hs : Still H H') (so : Since H0 H' out o) :
    ∃ H2, tidy H (.tuple #[out, .int .i64 n], H') = (.tuple #[out, .int .i64 n], H2) ∧ BR H2 out o ∧ Still H H2 := by
  obtain ⟨H2, h2, h3⟩ := tidy_fr (v := .tuple #[out, .int .i64 n]) hs
  refine ⟨H2, h2, ?_, h3⟩
  unfold tidy at h2
  split at h2
  · rename_i hg
    cases h2
    have : out = .slice none 0 0 := by
      rcases so.own with ⟨_, h⟩ | ⟨_, a, rfl, _⟩ | ⟨b, o', c, xs, rfl, _⟩
      · exact h
      · simp [gr] at hg
      · simp [gr] at hg
    subst this
    rcases so.own with ⟨h, _⟩ | ⟨_, a, h, _⟩ | ⟨b, o', c, xs, h, _⟩
    · rw [h]; exact RdS.nil
    · cases h
    · cases h
  · cases h2
    exact so.own.sl

theorem q_Join_long (v : Value) (ls : List (List UInt8)) (H : AHeap) (hlen : lenS v = some (.int .i64 (ls.length : Int))) (hl : 65535 < ls.length) : CC F.backup_Join [v] H = some (.tuple #[.slice none 0 0, .int .i64 5], H) := by
  have h1 : 65535 < (ls.length : Int) := by omega
  apply pure_of _ (d_backup_Join _ H) rfl
  rotate_left 2
  · simp (disch := first | with_reducible rfl | assumption | omega | rfl | (simp only [go_sem]; first | done | omega)) only [go_sem, ↓reduceIte, reduceCtorEq, Nat.reduceEqDiff, Nat.reduceAdd, Nat.reduceSub, Nat.reduceMul, Nat.reduceDiv, Nat.reduceMod, Nat.reduceLeDiff, Nat.reduceLT, Nat.reduceBEq, Int.reduceEq, Int.reduceBEq, Int.reduceBNe, Int.reduceLT, Int.reduceLE, Int.reduceAdd, Int.reduceSub, Int.reduceNeg, Int.reduceToNat, Int.reducePow, Nat.reducePow, Int.reduceMul, Int.reduceDiv, ↓s_backup_Join, hlen, h1]
    rfl
  · (repeat (first | exact Fr.refl _ | refine Fr.push ?_ _ | refine Fr.set ?_ _ _ (by intro h; first | omega | (simp only [go_sem] at h; omega))))

theorem q_Join (ls : List (List UInt8)) (v : Value) (H : AHeap) (hr : Rds H v ls) (hl : ls.length ≤ 65535) (hsz : ∀ p ∈ ls, p.length ≤ 5000000) (hsum : sumP ls ≤ 4194304) :
    ∃ v' H', CC F.backup_Join [v] H = some (.tuple #[v', .int .i64 (jn ls).2], H') ∧ BR H' v' (jn ls).1 ∧ Still H H' := by
  have hlen := hr.lenS
  have hl1 : ¬ 65535 < (ls.length : Int) := by omega
  have hs1 : ¬ 4194304 < sumP ls := by omega
  have z0 : ∀ K : K, l_backup_Join_0 v (.int .i64 0) v (.int .i64 (ls.length : Int)) (.int .i64 0) H (blkK [0, 4] 0 K) = K .normal [(0, v), (4, .int .i64 (sumP ls))] H := l_J0 ls v H hr (by omega) 5000000 (Nat.le_refl _) hsz ls 0 0 (by simp) (by decide) (by simp)
  obtain ⟨z1, z2⟩ := l_J1 ls v H hr (by omega) ls 0 (by simp)
  unfold jn
  cases hok : ls.all okP with
  | false =>
    have z2 : ∀ K : K, l_backup_Join_1 v v (.int .i64 (ls.length : Int)) (.int .i64 0) H (blkK [0] 2 K) = K .ret [(2, .slice none 0 0), (3, .int .i64 12)] H := z2 hok
    refine ⟨.slice none 0 0, H, ?_, RdS.nil, Fr.refl H⟩
    apply pure_of _ (d_backup_Join _ H) rfl
    rotate_left 2
    · simp (disch := first | with_reducible rfl | assumption | omega | rfl | (simp only [go_sem]; first | done | omega)) only [go_sem, ↓reduceIte, reduceCtorEq, Nat.reduceEqDiff, Nat.reduceAdd, Nat.reduceSub, Nat.reduceMul, Nat.reduceDiv, Nat.reduceMod, Nat.reduceLeDiff, Nat.reduceLT, Nat.reduceBEq, Int.reduceEq, Int.reduceBEq, Int.reduceBNe, Int.reduceLT, Int.reduceLE, Int.reduceAdd, Int.reduceSub, Int.reduceNeg, Int.reduceToNat, Int.reducePow, Nat.reducePow, Int.reduceMul, Int.reduceDiv, ↓s_backup_Join, hlen, hl1, z0, hs1, z2]
      rfl
    · (repeat (first | exact Fr.refl _ | refine Fr.push ?_ _ | refine Fr.set ?_ _ _ (by intro h; first | omega | (simp only [go_sem] at h; omega))))
  | true =>
    have z1 : ∀ K : K, l_backup_Join_1 v v (.int .i64 (ls.length : Int)) (.int .i64 0) H (blkK [0] 2 K) = K .normal [(0, v)] H := z1 hok
    simp only [if_true]
    cases hls : ls with
    | nil =>
      rw [hls] at hlen z0 z1 hl1 hs1
      have hlen : lenS v = some (.int .i64 0) := hlen
      have z0 : ∀ K : K, l_backup_Join_0 v (.int .i64 0) v (.int .i64 0) (.int .i64 0) H (blkK [0, 4] 0 K) = K .normal [(0, v), (4, .int .i64 0)] H := z0
      have z1 : ∀ K : K, l_backup_Join_1 v v (.int .i64 0) (.int .i64 0) H (blkK [0] 2 K) = K .normal [(0, v)] H := z1
      refine ⟨.slice none 0 0, H, ?_, RdS.nil, Fr.refl H⟩
      apply pure_of _ (d_backup_Join _ H) rfl
      rotate_left 2
      · simp (disch := first | with_reducible rfl | assumption | omega | rfl | (simp only [go_sem]; first | done | omega)) only [go_sem, ↓reduceIte, reduceCtorEq, Nat.reduceEqDiff, Nat.reduceAdd, Nat.reduceSub, Nat.reduceMul, Nat.reduceDiv, Nat.reduceMod, Nat.reduceLeDiff, Nat.reduceLT, Nat.reduceBEq, Int.reduceEq, Int.reduceBEq, Int.reduceBNe, Int.reduceLT, Int.reduceLE, Int.reduceAdd, Int.reduceSub, Int.reduceNeg, Int.reduceToNat, Int.reducePow, Nat.reducePow, Int.reduceMul, Int.reduceDiv, ↓s_backup_Join, hlen, z0, z1]
        rfl
      · (repeat (first | exact Fr.refl _ | refine Fr.push ?_ _ | refine Fr.set ?_ _ _ (by intro h; first | omega | (simp only [go_sem] at h; omega))))
    | cons p t =>
      simp only
      rw [← hls]
      have hpos : 0 < ls.length := by rw [hls]; simp
      have hne : ¬ (ls.length : Int) = 0 := by omega
      have hop : okP p = true := List.all_eq_true.1 hok p (by rw [hls]; simp)
      have l80 := (okP_len hop).1
      -- the map
      obtain ⟨Hm, hHm⟩ : ∃ Hm, H.push (.map []) = Hm := ⟨_, rfl⟩
      have sm : Still H Hm := by rw [← hHm]; exact (Fr.refl H).push _
      have nm : Hm.n = H.n + 1 := by rw [← hHm]; rfl
      have fm : Hm.f H.n = .map [] := by rw [← hHm]; exact push_f_eq rfl
      have hmk := make_map (H := H) mapT
      rw [hHm] at hmk
      have mj : MapJ H Hm H.n (esOf (ls.take 0)) := ⟨sm, Nat.le_refl _, by omega, [], fm, by rw [List.take_zero]; trivial⟩
      obtain ⟨w1, w2⟩ := l_J2 ls v H hr (by omega) hok p t hls H.n ls 0 Hm (by simp) (by rw [List.take_zero]; exact Cons.nil) mj
      rw [List.take_zero] at w1 w2
      cases h11 : ok11 (prX p) (prN p) [] ls with
      | false =>
        obtain ⟨H2, s2, w2⟩ := w2 h11
        have w2 : ∀ K : K, l_backup_Join_2 v (.map (some H.n)) v (.int .i64 (ls.length : Int)) (.int .i64 0) Hm (blkK [0, 9] 4 K) = K .ret [(2, .slice none 0 0), (3, .int .i64 11)] H2 := w2
        refine ⟨.slice none 0 0, H, ?_, RdS.nil, Fr.refl H⟩
        apply pure_of _ (d_backup_Join _ H) rfl
        rotate_left 2
        · simp (disch := first | with_reducible rfl | assumption | omega | rfl | (simp only [go_sem]; first | done | omega)) only [go_sem, ↓reduceIte, reduceCtorEq, Nat.reduceEqDiff, Nat.reduceAdd, Nat.reduceSub, Nat.reduceMul, Nat.reduceDiv, Nat.reduceMod, Nat.reduceLeDiff, Nat.reduceLT, Nat.reduceBEq, Int.reduceEq, Int.reduceBEq, Int.reduceBNe, Int.reduceLT, Int.reduceLE, Int.reduceAdd, Int.reduceSub, Int.reduceNeg, Int.reduceToNat, Int.reducePow, Nat.reducePow, Int.reduceMul, Int.reduceDiv, ↓s_backup_Join, hlen, hl1, z0, hs1, z1, hne, hmk, w2]
          rfl
        · exact s2
      | true =>
        obtain ⟨H2, m2, w1⟩ := w1 h11
        have w1 : ∀ K : K, l_backup_Join_2 v (.map (some H.n)) v (.int .i64 (ls.length : Int)) (.int .i64 0) Hm (blkK [0, 9] 4 K) = K .normal [(0, v), (9, .map (some H.n))] H2 := w1
        simp only [if_true]
        obtain ⟨hcons, hall⟩ := ok11_cons Cons.nil h11
        rw [List.nil_append] at hcons
        have hN : (prN p) = ((prN p).toNat : Int) := by have := (pr_lt p).2.2; omega
        have hNl := toNat_lt (p := p)
        have hkeys : ∀ q ∈ ls, 0 ≤ prI q ∧ prI q < ((prN p).toNat : Int) := fun q hq => by
          have h1 := (okP_len (List.all_eq_true.1 hok q hq)).2
          have h2 := (pr_lt q).2.1
          have h3 := (hall q hq).2
          rw [h3] at h1
          omega
        have hlt := count_lt hcons hkeys
        have hle := count_le hcons hkeys
        obtain ⟨ents, fe, ee⟩ := m2.ent
        have hml := len_map (ts := []) mapT fe ee
        have hr2 := hr.still m2.still
        obtain ⟨b0, o0, y0, i0, c0, r0, _⟩ := hr2.at hpos
        have hp0 : ls[0] = p := by simp [hls]
        rw [hp0] at r0
        have i0 : ixS 1 v (.int .i64 0) = some (.pointer (some ⟨b0, o0, none⟩)) := i0
        obtain ⟨w6, z6, u6, _⟩ := r0.mid (sz := 1) rfl (i := 6) (j := 8) (q := .i64) (q' := .i64) (by decide) (by omega)
        have m6 : CC F.backup_number [w6] H2 = some (.int .u32 (prN p), H2) := q_number _ w6 H2 u6.1 len42
        have z6 : slS T.uint8 1 y0 (some (.int .i64 6)) (some (.int .i64 8)) none H2 = some w6 := z6
        have hpl := (pr_lt p)
        cases ho : outs ls (prN p).toNat with
        | none =>
          have hlt2 : ((esOf ls).length : Int) < prN p := by have := hlt.2 ho; omega
          refine ⟨.slice none 0 0, H, ?_, RdS.nil, Fr.refl H⟩
          apply pure_of _ (d_backup_Join _ H) rfl
          rotate_left 2
          · simp (disch := first | with_reducible rfl | assumption | omega | rfl | (simp only [go_sem]; first | done | omega)) only [go_sem, ↓reduceIte, reduceCtorEq, Nat.reduceEqDiff, Nat.reduceAdd, Nat.reduceSub, Nat.reduceMul, Nat.reduceDiv, Nat.reduceMod, Nat.reduceLeDiff, Nat.reduceLT, Nat.reduceBEq, Int.reduceEq, Int.reduceBEq, Int.reduceBNe, Int.reduceLT, Int.reduceLE, Int.reduceAdd, Int.reduceSub, Int.reduceNeg, Int.reduceToNat, Int.reducePow, Nat.reducePow, Int.reduceMul, Int.reduceDiv, ↓s_backup_Join, hlen, hl1, z0, hs1, z1, hne, hmk, w1, hml, i0, c0, z6, enterK_eq m6, x_uint32_int, hlt2]
            rfl
          · exact m2.still
        | some o =>
          have hlt2 : ¬ ((esOf ls).length : Int) < prN p := fun h => by
            have := hlt.1 (by omega)
            rw [this] at ho; cases ho
          have hcnt : (esOf ls).length = (prN p).toNat := by omega
          rw [hcnt] at hlt2 hml
          obtain ⟨out', H3, so, e3⟩ := l_J3 ls v H2 H.n m2.lt H.n ents fe ee hcons hsz (prN p).toNat (by omega) o ho (prN p).toNat 0 H2 (.slice none 0 0) [] (by omega) rfl Since.nil
          have e3 : ∀ K : K, l_backup_Join_3 v (.map (some H.n)) (.slice none 0 0) (.int .i64 ((prN p).toNat : Int)) (.int .i64 0) H2 (blkK [0, 15] 6 K) = K .normal [(0, v), (15, out')] H3 := e3
          have hol := outs_len hsz ho
          have hck := q_Check o out' H3 so.own.rd (by omega)
          have hr3 := hr2.still so.still
          obtain ⟨b1, o1, y1, i1, c1, r1, _⟩ := hr3.at hpos
          rw [hp0] at r1
          have i1 : ixS 1 v (.int .i64 0) = some (.pointer (some ⟨b1, o1, none⟩)) := i1
          rw [i0] at i1
          cases i1
          obtain ⟨wx, zx, ux, _⟩ := r1.to (sz := 1) rfl (j := 4) (q := .i64) (by omega)
          have mx : CC F.backup_number [wx] H3 = some (.int .u32 (prX p), H3) := q_number _ wx H3 ux.1 (by simp; omega)
          have zx : slS T.uint8 1 y1 none (some (.int .i64 4)) none H3 = some wx := zx
          have s3 : Still H H3 := m2.still.trans so.still
          by_cases hx : adl o = prX p
          · have hx' : (adl o = prX p) = True := by simp [hx]
            simp only [hx, if_true]
            have key : s_backup_Join guardK condL shareL Try.prog CC l_backup_Join_0 l_backup_Join_1 l_backup_Join_2 l_backup_Join_3 v H (endK Try.prog [.tmp 2, .tmp 3]) = some (.tuple #[out', .int .i64 0], H3) := by
              simp (disch := first | with_reducible rfl | assumption | omega | rfl | (simp only [go_sem]; first | done | omega)) only [go_sem, ↓reduceIte, reduceCtorEq, Nat.reduceEqDiff, Nat.reduceAdd, Nat.reduceSub, Nat.reduceMul, Nat.reduceDiv, Nat.reduceMod, Nat.reduceLeDiff, Nat.reduceLT, Nat.reduceBEq, Int.reduceEq, Int.reduceBEq, Int.reduceBNe, Int.reduceLT, Int.reduceLE, Int.reduceAdd, Int.reduceSub, Int.reduceNeg, Int.reduceToNat, Int.reducePow, Nat.reducePow, Int.reduceMul, Int.reduceDiv, ↓s_backup_Join, hlen, hl1, z0, hs1, z1, hne, hmk, w1, hml, i0, c0, z6, enterK_eq m6, x_uint32_int, hlt2, e3, enterK_eq hck, c1, zx, enterK_eq mx, hx']
            obtain ⟨H4, h4, h5, h6⟩ := keep_pair (n := 0) s3 so
            exact ⟨out', H4, (d_backup_Join _ H key).trans (by rw [h4]), h5, h6⟩
          · simp only [hx, if_false]
            refine ⟨.slice none 0 0, H, ?_, RdS.nil, Fr.refl H⟩
            apply pure_of _ (d_backup_Join _ H) rfl
            rotate_left 2
            · simp (disch := first | with_reducible rfl | assumption | omega | rfl | (simp only [go_sem]; first | done | omega)) only [go_sem, ↓reduceIte, reduceCtorEq, Nat.reduceEqDiff, Nat.reduceAdd, Nat.reduceSub, Nat.reduceMul, Nat.reduceDiv, Nat.reduceMod, Nat.reduceLeDiff, Nat.reduceLT, Nat.reduceBEq, Int.reduceEq, Int.reduceBEq, Int.reduceBNe, Int.reduceLT, Int.reduceLE, Int.reduceAdd, Int.reduceSub, Int.reduceNeg, Int.reduceToNat, Int.reducePow, Nat.reducePow, Int.reduceMul, Int.reduceDiv, ↓s_backup_Join, hlen, hl1, z0, hs1, z1, hne, hmk, w1, hml, i0, c0, z6, enterK_eq m6, x_uint32_int, hlt2, e3, enterK_eq hck, c1, zx, enterK_eq mx, hx]
              rfl
            · exact s3

/-! ### joins -/
theorem q_joins (ls : List (List UInt8)) (v w : Value) (want : List UInt8) (no : Int) (H : AHeap) (hr : Rds H v ls) (hw : BR H w want) (hl : ls.length ≤ 65535) (hsz : ∀ p ∈ ls, p.length ≤ 5000000) (hsum : sumP ls ≤ 4194304) :
    CC F.law_joins [v, w, .int .i64 no] H = some (.bool (decide (jn ls = (want, no))), H) := by
  obtain ⟨v', H', hj, hb, hs⟩ := q_Join ls v H hr hl hsz hsum
  have s1 := hb.str
  have s2 := BR.str (hw.still hs)
  by_cases e1 : (jn ls).1 = want
  · have e1' : ((jn ls).1 = want) = True := by simp [e1]
    by_cases e2 : (jn ls).2 = no
    · have e2' : ((jn ls).2 = no) = True := by simp [e2]
      have e : jn ls = (want, no) := Prod.ext e1 e2
      rw [decide_eq_true e]
      apply pure_of _ (d_law_joins _ _ _ H) rfl
      rotate_left 2
      · simp (disch := first | with_reducible rfl | assumption | omega | rfl | (simp only [go_sem]; first | done | omega)) only [go_sem, ↓reduceIte, reduceCtorEq, Nat.reduceEqDiff, Nat.reduceAdd, Nat.reduceSub, Nat.reduceMul, Nat.reduceDiv, Nat.reduceMod, Nat.reduceLeDiff, Nat.reduceLT, Nat.reduceBEq, Int.reduceEq, Int.reduceBEq, Int.reduceBNe, Int.reduceLT, Int.reduceLE, Int.reduceAdd, Int.reduceSub, Int.reduceNeg, Int.reduceToNat, Int.reducePow, Nat.reducePow, Int.reduceMul, Int.reduceDiv, ↓s_law_joins, enterK_eq hj, s1, s2, bl_mk, e1', e2']
        rfl
      · exact hs
    · have e : ¬ jn ls = (want, no) := fun h => e2 (by rw [h])
      rw [decide_eq_false e]
      apply pure_of _ (d_law_joins _ _ _ H) rfl
      rotate_left 2
      · simp (disch := first | with_reducible rfl | assumption | omega | rfl | (simp only [go_sem]; first | done | omega)) only [go_sem, ↓reduceIte, reduceCtorEq, Nat.reduceEqDiff, Nat.reduceAdd, Nat.reduceSub, Nat.reduceMul, Nat.reduceDiv, Nat.reduceMod, Nat.reduceLeDiff, Nat.reduceLT, Nat.reduceBEq, Int.reduceEq, Int.reduceBEq, Int.reduceBNe, Int.reduceLT, Int.reduceLE, Int.reduceAdd, Int.reduceSub, Int.reduceNeg, Int.reduceToNat, Int.reducePow, Nat.reducePow, Int.reduceMul, Int.reduceDiv, ↓s_law_joins, enterK_eq hj, s1, s2, bl_mk, e1', e2]
        rfl
      · exact hs
  · have e : ¬ jn ls = (want, no) := fun h => e1 (by rw [h])
    rw [decide_eq_false e]
    apply pure_of _ (d_law_joins _ _ _ H) rfl
    rotate_left 2
    · simp (disch := first | with_reducible rfl | assumption | omega | rfl | (simp only [go_sem]; first | done | omega)) only [go_sem, ↓reduceIte, reduceCtorEq, Nat.reduceEqDiff, Nat.reduceAdd, Nat.reduceSub, Nat.reduceMul, Nat.reduceDiv, Nat.reduceMod, Nat.reduceLeDiff, Nat.reduceLT, Nat.reduceBEq, Int.reduceEq, Int.reduceBEq, Int.reduceBNe, Int.reduceLT, Int.reduceLE, Int.reduceAdd, Int.reduceSub, Int.reduceNeg, Int.reduceToNat, Int.reducePow, Nat.reducePow, Int.reduceMul, Int.reduceDiv, ↓s_law_joins, enterK_eq hj, s1, s2, bl_mk, e1]
      rfl
    · exact hs

end Go.Proofs.Ytehnchfnhbmkdaa

/-
  Chapter 48: the pieces of a text, joined again in whatever order, are the text.
  Conditions: none. By an AI agent.
-/
set_option maxRecDepth 10000
set_option linter.unusedSimpArgs false
set_option linter.unusedVariables false
namespace Go.Proofs.Ytehnchfnhbmkdaa
open Go Eng

/-! ### numbers in bytes and back -/
theorem numB_snoc (l : List UInt8) (c : UInt8) : numB (l ++ [c]) = numB l * 256 + c.toNat := by
  unfold numB
  rw [List.foldl_append]
  rfl
theorem numB_be : ∀ (k : Nat) (n : Int), 0 ≤ n → n < 256 ^ k → numB (be n k) = n
  | 0, n, h0, h1 => by
    have h1 : n < 1 := h1
    have : n = 0 := by omega
    subst this; rfl
  | k + 1, n, h0, h1 => by
    rw [Int.pow_succ] at h1
    rw [be, numB_snoc, numB_be k (n / 256) (by omega) (by omega), u8_nat (mod256 n)]
    omega

theorem take_app {α : Type} {a b : List α} {k : Nat} (h : a.length = k) : (a ++ b).take k = a := by rw [List.take_append_of_le_length (by omega), List.take_of_length_le (by omega)]
theorem drop_app {α : Type} {a b : List α} {k : Nat} (h : a.length = k) : (a ++ b).drop k = b := by subst h; simp

theorem pieceL_pr (l : List UInt8) (size n i : Nat) (hn : n < 65536) (hi : i < 65536) :
    prX (pieceL l size n i) = adl l ∧ prI (pieceL l size n i) = i ∧ prN (pieceL l size n i) = n ∧ (pieceL l size n i).drop 8 = chunkL l size i ∧ 8 ≤ (pieceL l size n i).length := by
  have ha := adl_lt l
  have e : pieceL l size n i = be (adl l) 4 ++ (be i 2 ++ (be n 2 ++ chunkL l size i)) := by simp [pieceL]
  have d4 : (pieceL l size n i).drop 4 = be i 2 ++ (be n 2 ++ chunkL l size i) := by rw [e]; exact drop_app (be_length _ _)
  have d6 : (pieceL l size n i).drop 6 = be n 2 ++ chunkL l size i := by
    rw [show (6 : Nat) = 4 + 2 from rfl, ← List.drop_drop, d4]; exact drop_app (be_length _ _)
  have d8 : (pieceL l size n i).drop 8 = chunkL l size i := by
    rw [show (8 : Nat) = 6 + 2 from rfl, ← List.drop_drop, d6]; exact drop_app (be_length _ _)
  refine ⟨?_, ?_, ?_, d8, by rw [e]; simp [be_length]; omega⟩
  · unfold prX; rw [e, take_app (be_length _ _)]; exact numB_be 4 _ ha.1 ha.2
  · unfold prI; rw [d4, take_app (be_length _ _)]; exact numB_be 2 _ (by omega) (by show _ < 65536; omega)
  · unfold prN; rw [d6, take_app (be_length _ _)]; exact numB_be 2 _ (by omega) (by show _ < 65536; omega)

theorem mem_pcsTo {l : List UInt8} {size n : Nat} {p : List UInt8} : ∀ {m : Nat}, p ∈ pcsTo l size n m ↔ ∃ i, i < m ∧ p = pieceL l size n i
  | 0 => by simp [pcsTo]
  | m + 1 => by
    rw [pcsTo, List.mem_append, mem_pcsTo]
    constructor
    · rintro (⟨i, h1, h2⟩ | h)
      · exact ⟨i, by omega, h2⟩
      · exact ⟨m, by omega, by simpa using h⟩
    · rintro ⟨i, h1, h2⟩
      by_cases h : i < m
      · exact .inl ⟨i, h, h2⟩
      · have : i = m := by omega
        subst this; exact .inr (by simp [h2])

theorem fnd_of {i : Int} {s : List UInt8} : ∀ {ls : List (List UInt8)}, (∀ p ∈ ls, prI p = i → p.drop 8 = s) → (∃ p ∈ ls, prI p = i) → fnd ls i = some s
  | [], _, h => by obtain ⟨p, hp, _⟩ := h; simp at hp
  | p :: t, h1, h2 => by
    unfold fnd
    by_cases hp : prI p = i
    · rw [if_pos hp, h1 p (by simp) hp]
    · rw [if_neg hp]
      refine fnd_of (fun q hq => h1 q (by simp [hq])) ?_
      obtain ⟨q, hq, e⟩ := h2
      rcases List.mem_cons.1 hq with rfl | hq
      · exact absurd e hp
      · exact ⟨q, hq, e⟩

theorem ok11_of {x n : Int} : ∀ {t pre : List (List UInt8)}, (∀ p ∈ t, prX p = x ∧ prN p = n) → (∀ p ∈ t, ∀ q ∈ pre ++ t, agP p q = true) → ok11 x n pre t = true
  | [], _, _, _ => rfl
  | p :: t, pre, h1, h2 => by
    unfold ok11 cdP
    have hp := h1 p (by simp)
    have h3 : pre.all (agP p) = true := List.all_eq_true.2 fun q hq => h2 p (by simp) q (by simp [hq])
    have h4 : ok11 x n (pre ++ [p]) t = true := ok11_of (fun q hq => h1 q (by simp [hq])) fun q hq r hr => h2 q (by simp [hq]) r (by simpa using hr)
    rw [h3, h4]
    simp [hp.1, hp.2]

theorem outs_of {ls : List (List UInt8)} {l : List UInt8} {size : Nat} : ∀ {k : Nat}, (∀ i, i < k → fnd ls (i : Int) = some (chunkL l size i)) → outs ls k = some (l.take (k * size))
  | 0, _ => by simp [outs]
  | k + 1, h => by
    rw [outs, outs_of fun i hi => h i (by omega), h k (by omega)]
    show some _ = some _
    rw [Nat.succ_mul, List.take_add]
    rfl

theorem nP_cover (l : List UInt8) {size : Nat} (hs : 1 ≤ size) : l.length ≤ nP l size * size := by
  have h1 := (pcN_spec (len := l.length) hs).1
  have h2 : pcN l.length size ≤ nP l size := by rw [nP_pcN hs]; omega
  exact Nat.le_trans h1 (Nat.mul_le_mul_right _ h2)

/-- The pieces of l, in whatever order and however often. -/
def PcsOf (l : List UInt8) (size : Nat) (ls : List (List UInt8)) : Prop := (∀ p ∈ ls, p ∈ pcsL l size) ∧ ∀ p ∈ pcsL l size, p ∈ ls
theorem PcsOf.self {l : List UInt8} {size : Nat} : PcsOf l size (pcsL l size) := ⟨fun _ h => h, fun _ h => h⟩

theorem agP_pcs {l : List UInt8} {size : Nat} (hn : nP l size < 65536) {p q : List UInt8} (hp : p ∈ pcsL l size) (hq : q ∈ pcsL l size) : agP p q = true := by
  obtain ⟨i, hi, rfl⟩ := mem_pcsTo.1 hp
  obtain ⟨j, hj, rfl⟩ := mem_pcsTo.1 hq
  obtain ⟨_, a2, _, a4, _⟩ := pieceL_pr l size (nP l size) i hn (by omega)
  obtain ⟨_, b2, _, b4, _⟩ := pieceL_pr l size (nP l size) j hn (by omega)
  unfold agP
  rw [a2, b2, a4, b4]
  by_cases h : (j : Int) = (i : Int)
  · have : j = i := by omega
    subst this; simp
  · simp [h]

theorem jn_pcs {l : List UInt8} {size : Nat} (hs : 1 ≤ size) (hn : nP l size < 65536) {ls : List (List UInt8)} (h : PcsOf l size ls) : jn ls = (l, 0) := by
  have hpos : 0 < nP l size := by unfold nP; omega
  have hall : ∀ p ∈ ls, prX p = adl l ∧ prN p = nP l size ∧ okP p = true := fun p hp => by
    obtain ⟨i, hi, rfl⟩ := mem_pcsTo.1 (h.1 p hp)
    obtain ⟨a1, a2, a3, _, a5⟩ := pieceL_pr l size (nP l size) i hn (by omega)
    refine ⟨a1, a3, ?_⟩
    unfold okP
    rw [a2, a3]
    simp [a5]; omega
  have hok : ls.all okP = true := List.all_eq_true.2 fun p hp => (hall p hp).2.2
  have hag : ∀ p ∈ ls, ∀ q ∈ [] ++ ls, agP p q = true := fun p hp q hq => agP_pcs hn (h.1 p hp) (h.1 q (by simpa using hq))
  have hfnd : ∀ i, i < nP l size → fnd ls (i : Int) = some (chunkL l size i) := fun i hi => by
    refine fnd_of (fun p hp e => ?_) ⟨_, h.2 _ (mem_pcsTo.2 ⟨i, hi, rfl⟩), (pieceL_pr l size (nP l size) i hn (by omega)).2.1⟩
    obtain ⟨j, hj, rfl⟩ := mem_pcsTo.1 (h.1 p hp)
    obtain ⟨_, b2, _, b4, _⟩ := pieceL_pr l size (nP l size) j hn (by omega)
    rw [b2] at e
    have : j = i := by omega
    subst this; exact b4
  unfold jn
  rw [if_pos hok]
  cases hls : ls with
  | nil =>
    have := h.2 _ (mem_pcsTo.2 ⟨0, hpos, rfl⟩)
    rw [hls] at this; simp at this
  | cons p t =>
    simp only
    rw [← hls]
    have hp := hall p (by rw [hls]; simp)
    rw [hp.1, hp.2.1, if_pos (ok11_of (fun q hq => ⟨(hall q hq).1, (hall q hq).2.1⟩) hag)]
    rw [Int.toNat_natCast, outs_of hfnd, List.take_of_length_le (nP_cover l hs)]
    simp

end Go.Proofs.Ytehnchfnhbmkdaa

/-
  Chapter 48: an element of a row of its own is set; two are swapped; cuts.
  Conditions: none. By an AI agent.
-/
set_option maxRecDepth 10000
set_option linter.unusedSimpArgs false
set_option linter.unusedVariables false
namespace Go.Proofs.Ytehnchfnhbmkdaa
open Go Eng

theorem map_set' {α β : Type} (f : α → β) : ∀ (l : List α) (i : Nat) (a : α), (l.set i a).map f = (l.map f).set i (f a)
  | [], _, _ => rfl
  | _ :: _, 0, _ => rfl
  | x :: l, i + 1, a => by simp [map_set' f l i a]

/-- An element of one cell is set. -/
theorem Own.set1 {α : Type} {E : Enc α} {H : AHeap} {e : TypeId} {v : Value} {l : List α} (f : α → Value) (hw : E.w = 1) (hcells : ∀ l : List α, E.cells l = l.map f) (ho : ∀ a, Eng.one (f a) = true) (r : Own E H e v l) {i : Nat} (hi : i < l.length) (x : α) :
    ∃ b o k, ixS 1 v (.int .i64 (i : Int)) = some (.pointer (some ⟨b, o, none⟩)) ∧ blockOf v = some b ∧ b < H.n ∧ cellB (H.f b) o = some (f l[i]) ∧ wr1 (H.f b) o (f x) = some k ∧ Own E (H.set b k) e v (l.set i x) ∧ Fr (OnlyOf v) H (H.set b k) := by
  rcases r with ⟨h, _⟩ | ⟨h, _⟩ | ⟨b, o, c, xs, rfl, hl, hb, hf, hoc, hx⟩
  · subst h; simp at hi
  · subst h; simp at hi
  · rw [hw, Nat.mul_one] at hoc
    rw [hw, Nat.mul_one, hcells] at hx
    have hlen : o + i < xs.length := by omega
    have hcell : xs[o + i]? = some (f l[i]) := by
      have : ((xs.drop o).take l.length)[i]? = (l.map f)[i]? := by rw [hx]
      rw [List.getElem?_take_of_lt hi, List.getElem?_drop, List.getElem?_map, List.getElem?_eq_getElem hi] at this
      exact this
    have hix := ixS_nat (b := b) (o := o) (sz := 1) (code := 2 * c + 1) (q := .i64) hi
    rw [Nat.mul_one] at hix
    refine ⟨b, o + i, .cells (xs.set (o + i) (f x)) e true, hix, rfl, hb, by rw [hf]; exact hcell, by rw [hf]; exact wr1_c hlen (ho x), ?_, Fr.set (Fr.refl H) _ _ fun _ => rfl⟩
    refine .inr (.inr ⟨b, o, c, xs.set (o + i) (f x), by simp, by simpa using hl, hb, set_f_eq, by simp [hw]; exact hoc, ?_⟩)
    rw [hw, Nat.mul_one, hcells, map_set', List.length_set, ← hx, List.drop_set, if_neg (by omega), List.take_set]
    congr 1
    omega

theorem ESl_cells : ∀ l : List Sl, ESl.cells l = l.map Sl.v
  | [] => rfl
  | a :: l => by rw [Enc.cells_cons, ESl_cells l]; rfl

theorem Els.set {H : AHeap} : ∀ {sl : List Sl} {ls : List (List UInt8)} (_ : Els H sl ls) (i : Nat) {s : Sl} {l : List UInt8} (_ : BR H s.v l), Els H (sl.set i s) (ls.set i l)
  | [], [], _, _, _, _, _ => trivial
  | _ :: _, _ :: _, e, 0, _, _, h => ⟨h, e.2⟩
  | _ :: _, _ :: _, e, i + 1, _, _, h => ⟨e.1, Els.set e.2 i h⟩
  | [], _ :: _, e, _, _, _, _ => e.elim
  | _ :: _, [], e, _, _, _, _ => e.elim

theorem OwnS.set {H : AHeap} {v : Value} {ls : List (List UInt8)} (r : OwnS H v ls) {i : Nat} (hi : i < ls.length) {x : Value} {l : List UInt8} (rx : BR H x l) (hx : Off (OnlyOf v) x) :
    ∃ b o k y, ixS 1 v (.int .i64 (i : Int)) = some (.pointer (some ⟨b, o, none⟩)) ∧ blockOf v = some b ∧ b < H.n ∧ cellB (H.f b) o = some y ∧ BR H y ls[i] ∧ Off (OnlyOf v) y ∧ wr1 (H.f b) o x = some k ∧ OwnS (H.set b k) v (ls.set i l) ∧ Fr (OnlyOf v) H (H.set b k) := by
  obtain ⟨sl, h1, h2, h3⟩ := r
  obtain ⟨s, rfl⟩ := rx.shape
  have hll : sl.length = ls.length := h2.len
  have hi' : i < sl.length := by omega
  obtain ⟨b, o, k, e1, e2, e3, e4, e5, e6, e7⟩ := Own.set1 Sl.v rfl ESl_cells (fun _ => rfl) h1 hi' s
  refine ⟨b, o, k, sl[i].v, e1, e2, e3, e4, h2.at hi' hi, h3 _ (List.getElem_mem _), e5, ⟨sl.set i s, e6, ?_, ?_⟩, e7⟩
  · exact Els.set (h2.keep e7 h3) i (rx.keep e7 hx)
  · intro y hy
    rcases List.mem_or_eq_of_mem_set hy with h | h
    · exact h3 y h
    · rw [h]; exact hx

/-! ### cuts -/
theorem q_cuts_arg (v : Value) (n : Int) (H : AHeap) (hn : n < 1 ∨ 65536 < n) : CC F.law_cuts [v, .int .i64 n, .slice none 0 0, .int .i64 2] H = some (.bool true, H) := by
  have h1 := q_Cut_arg v n H hn
  have h2 := q_same [] [] (.slice none 0 0) (.slice none 0 0) H OwnS.nil.rds OwnS.nil.rds (by simp)
  apply pure_of _ (d_law_cuts _ _ _ _ H) rfl
  rotate_left 2
  · simp (disch := first | with_reducible rfl | assumption | omega | rfl | (simp only [go_sem]; first | done | omega)) only [go_sem, ↓reduceIte, reduceCtorEq, Nat.reduceEqDiff, Nat.reduceAdd, Nat.reduceSub, Nat.reduceMul, Nat.reduceDiv, Nat.reduceMod, Nat.reduceLeDiff, Nat.reduceLT, Nat.reduceBEq, Int.reduceEq, Int.reduceBEq, Int.reduceBNe, Int.reduceLT, Int.reduceLE, Int.reduceAdd, Int.reduceSub, Int.reduceNeg, Int.reduceToNat, Int.reducePow, Nat.reducePow, Int.reduceMul, Int.reduceDiv, ↓s_law_cuts, enterK_eq h1, enterK_eq h2]
    rfl
  · (repeat (first | exact Fr.refl _ | refine Fr.push ?_ _ | refine Fr.set ?_ _ _ (by intro h; first | omega | (simp only [go_sem] at h; omega))))
theorem q_cuts (l : List UInt8) (v w : Value) (n : Nat) (H : AHeap) (hr : BR H v l) (h1 : 1 ≤ n) (h2 : n ≤ 65536) (hl : l.length ≤ 4194304) (hm : nP l n ≤ 65535) (hw : Rds H w (pcsL l n)) : CC F.law_cuts [v, .int .i64 (n : Int), w, .int .i64 0] H = some (.bool true, H) := by
  obtain ⟨v', H', e1, e2, e3, _⟩ := q_Cut l v n H hr h1 h2 hl hm
  have e4 := q_same (pcsL l n) (pcsL l n) v' w H' e2.rds (hw.still e3) (by rw [pcsL_length]; omega)
  rw [decide_eq_true rfl] at e4
  apply pure_of _ (d_law_cuts _ _ _ _ H) rfl
  rotate_left 2
  · simp (disch := first | with_reducible rfl | assumption | omega | rfl | (simp only [go_sem]; first | done | omega)) only [go_sem, ↓reduceIte, reduceCtorEq, Nat.reduceEqDiff, Nat.reduceAdd, Nat.reduceSub, Nat.reduceMul, Nat.reduceDiv, Nat.reduceMod, Nat.reduceLeDiff, Nat.reduceLT, Nat.reduceBEq, Int.reduceEq, Int.reduceBEq, Int.reduceBNe, Int.reduceLT, Int.reduceLE, Int.reduceAdd, Int.reduceSub, Int.reduceNeg, Int.reduceToNat, Int.reducePow, Nat.reducePow, Int.reduceMul, Int.reduceDiv, ↓s_law_cuts, enterK_eq e1, enterK_eq e4]
    rfl
  · exact e3

end Go.Proofs.Ytehnchfnhbmkdaa
