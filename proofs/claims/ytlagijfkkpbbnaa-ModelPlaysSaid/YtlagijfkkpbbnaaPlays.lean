/-
  Chapter 24: the law ModelPlays runs to true.
  Conditions: none. By an AI agent.
-/
import Derived.Test.YtlagijfkkpbbnaaAl
import Derived.Test.YtlagijfkkpbbnaaDsModelPlays
import Derived.Test.YtlagijfkkpbbnaaEng28
import Derived.Test.YtlagijfkkpbbnaaDec
set_option maxRecDepth 10000
set_option linter.unusedSimpArgs false
set_option linter.unusedVariables false
namespace Go.Proofs.Ytlagijfkkpbbnaa
open Go Eng

theorem MdlT.back {t : TypeId} {H H' : AHeap} {b : Nat} {l l' : List Pr} (r : MdlT t H b l) (hm : MdlT t H' b l') (hsame : ∀ c, c < H.n → H'.f c = H.f c) : MdlT t H b l' := by
  obtain ⟨v, h1, h2, h3, h4⟩ := r
  obtain ⟨v', h1', h2', h3', h4'⟩ := hm
  rw [hsame b h2, h1] at h1'
  cases h1'
  refine ⟨v, h1, h2, ?_, h4⟩
  rcases h3' with h | ⟨hl, x, hv, hs, hb⟩ | ⟨bb, o, c, xs, hv, hlc, hb, hff, ho, hx⟩
  · exact .inl h
  · exact .inr (.inl ⟨hl, x, hv, hs, h3.blk (by rw [hv]; rfl)⟩)
  · have hbb : bb < H.n := h3.blk (by rw [hv]; rfl)
    exact .inr (.inr ⟨bb, o, c, xs, hv, hlc, hbb, by rw [← hsame bb hbb]; exact hff, ho, hx⟩)

theorem Two.tidied {Hz H H' : AHeap} {bm bx : Nat} {l l' : List Pr} {v : Value} {S : Nat → Prop} (t : Two Hz H bm bx l) (t' : Two Hz H' bm bx l') (hfr : Fr S H H') : ∃ H'', tidy H (v, H') = (v, H'') ∧ Two Hz H'' bm bx l' := by
  unfold tidy
  split
  · rename_i hg
    simp only [Bool.and_eq_true] at hg
    have hsame : ∀ c, c < H.n → H'.f c = H.f c := by
      intro c hc
      rcases hfr.old c hc with h | ⟨h, _⟩
      · exact h.2
      · have := List.all_eq_true.1 hg.2 c (by simpa using hc)
        have := t.ok c
        simp at *
        omega
    exact ⟨H, rfl, t.ok, t.base, t.m.back t'.m hsame, t.x.back t'.x hsame, t.dis, t.lom, t.lox, t'.srt, t'.len⟩
  · exact ⟨H', rfl, t'⟩

theorem Two.stepx {Hz H H1 H2 : AHeap} {bm bx : Nat} {l l' : List Pr} (t : Two Hz H bm bx l) (x1 : MdlR H1 bx l') (u1 : UpT T.ref24_Model H bx H1) (m2 : Mdl H2 bm l') (u2 : Up H1 bm H2) (hs : Srt l') (hl : l'.length ≤ 20000) : Two Hz H2 bm bx l' := by
  obtain ⟨m1, hm1, d1⟩ := sep t.m (fun c h1 h2 => t.dis c h2 h1) u1
  obtain ⟨x2, hx2, d2⟩ := sep x1 (fun c h1 h2 => d1 c h2 h1) u2
  have b1 : Still Hz H1 := t.base.still.then u1.fr fun c hc h => by have := t.lox c h; omega
  have lom1 : ∀ c, MB H1 bm c → Hz.n ≤ c := fun c h => t.lom c (hm1 c h)
  have n0 : Hz.n ≤ H.n := t.base.n
  have n1 : Hz.n ≤ H1.n := b1.n
  refine ⟨(t.ok.fr u1.fr).fr u2.fr, b1.still.then u2.fr fun c hc h => by have := lom1 c h; omega, m2, x2, fun c h1 h2 => d2 c h1 h2, fun c h => ?_, fun c h => ?_, hs, hl⟩
  · rcases u2.mb c h with h | h
    · exact lom1 c h
    · omega
  · rcases u1.mb c (hx2 c h) with h | h
    · exact t.lox c h
    · omega

theorem Eng.Fr.any {S : Nat → Prop} {H H' : AHeap} (h : Fr S H H') : Fr (fun _ => True) H H' := h.mono fun _ _ _ => trivial

theorem q_does (a : Act) (bm bx : Nat) (l : List Pr) (Hz H : AHeap) (t : Two Hz H bm bx l) :
    ∃ l' H', CC F.law_does [.pointer (some ⟨bm, 0, none⟩), .pointer (some ⟨bx, 0, none⟩), .agg #[.int .i64 a.what, .string a.key, .string a.value, .string a.old, .int .i64 a.limit]] H = some (.bool true, H') ∧ Two Hz H' bm bx l' := by
  generalize hH1 : H.push (.cells [.int .i64 a.what, .string a.key, .string a.value, .string a.old, .int .i64 a.limit] T.law_Act true) = H1
  have s1 : Still H H1 := by rw [← hH1]; exact (Fr.refl H).push _
  have n1 : H1.n = H.n + 1 := by rw [← hH1]; rfl
  have f1 : H1.f H.n = .cells [.int .i64 a.what, .string a.key, .string a.value, .string a.old, .int .i64 a.limit] T.law_Act true := by rw [← hH1]; exact push_f_eq rfl
  have t1 := t.still s1
  have hno : ¬ MB H1 bm H.n := fun h => by have := t.m.blk (MBT_still t.m s1 h); omega
  have hnox : ¬ MBT T.ref24_Model H1 bx H.n := fun h => by have := t.x.blk (MBT_still t.x s1 h); omega
  by_cases w0 : a.what = 0
  · obtain ⟨s, e, hse⟩ := getE_shape l a.key
    have hg := q_getR bx l a.key H1 t1.x t1.srt t1.len
    rw [hse] at hg
    have hgs := q_gets bm l a.key s e H1 t1.m t1.srt t1.len hse
    refine ⟨l, H, ?_, t⟩
    refine pure_of (H' := H1) ?_ (d_law_does _ _ _ H) rfl s1
    simp (disch := first | with_reducible rfl | assumption | omega | rfl | (simp only [go_sem]; first | done | omega)) only [go_sem, ↓reduceIte, reduceCtorEq, Nat.reduceEqDiff, Nat.reduceAdd, Nat.reduceSub, Nat.reduceMul, Nat.reduceDiv, Nat.reduceMod, Nat.reduceLeDiff, Nat.reduceLT, Nat.reduceBEq, Int.reduceEq, Int.reduceBEq, Int.reduceBNe, Int.reduceLT, Int.reduceLE, Int.reduceAdd, Int.reduceSub, Int.reduceNeg, Int.reduceToNat, Int.reducePow, Nat.reducePow, Int.reduceMul, Int.reduceDiv, ↓s_law_does, hH1, f1, decide_eq_true w0, enterK_eq hg, enterK_eq hgs]
  · by_cases w1 : a.what = 1
    · obtain ⟨H2, hp2, m2, u2⟩ := q_putM bm l ⟨a.key, a.value⟩ H1 t1.ok t1.m t1.srt t1.len
      obtain ⟨H3, hp3, x3, u3⟩ := q_putR bx l ⟨a.key, a.value⟩ H2 (t1.ok.fr u2.fr) (t1.midx u2) t1.srt t1.len
      have t3 := t1.step m2 u2 x3 u3 (srt_putE t1.srt _) (len_putE t1.len _)
      have f2 : H2.f H.n = .cells [.int .i64 a.what, .string a.key, .string a.value, .string a.old, .int .i64 a.limit] T.law_Act true := by rw [u2.fr.f (by omega) hno, f1]
      have hver : H2.ver H.n = H1.ver H.n := u2.fr.ver (by omega) hno
      have hnn : H1.n ≤ H2.n := u2.fr.n
      obtain ⟨H4, ht, t4⟩ := t.tidied (v := .bool true) t3 ((s1.any.then u2.fr fun _ _ _ => trivial).then u3.fr fun _ _ _ => trivial)
      refine ⟨_, H4, (d_law_does _ _ _ H (r := (.bool true, H3)) ?_).trans (congrArg some ht), t4⟩
      generalize (putE l ⟨a.key, a.value⟩).1 = e at hp2 hp3
      simp (disch := first | with_reducible rfl | assumption | omega | rfl | (simp only [go_sem]; first | done | omega)) only [go_sem, ↓reduceIte, reduceCtorEq, Nat.reduceEqDiff, Nat.reduceAdd, Nat.reduceSub, Nat.reduceMul, Nat.reduceDiv, Nat.reduceMod, Nat.reduceLeDiff, Nat.reduceLT, Nat.reduceBEq, Int.reduceEq, Int.reduceBEq, Int.reduceBNe, Int.reduceLT, Int.reduceLE, Int.reduceAdd, Int.reduceSub, Int.reduceNeg, Int.reduceToNat, Int.reducePow, Nat.reducePow, Int.reduceMul, Int.reduceDiv, ↓s_law_does, hH1, f1, decide_eq_false w0, decide_eq_true w1, enterK_eq hp2, f2, enterK_eq hp3]
    · by_cases w2 : a.what = 2
      · obtain ⟨H2, hp2, m2, u2⟩ := q_insM bm l ⟨a.key, a.value⟩ H1 t1.ok t1.m t1.srt t1.len
        obtain ⟨H3, hp3, x3, u3⟩ := q_insR bx l ⟨a.key, a.value⟩ H2 (t1.ok.fr u2.fr) (t1.midx u2) t1.srt t1.len
        have t3 := t1.step m2 u2 x3 u3 (srt_insertE t1.srt _) (len_insertE t1.len _)
        have f2 : H2.f H.n = .cells [.int .i64 a.what, .string a.key, .string a.value, .string a.old, .int .i64 a.limit] T.law_Act true := by rw [u2.fr.f (by omega) hno, f1]
        have hver : H2.ver H.n = H1.ver H.n := u2.fr.ver (by omega) hno
        have hnn : H1.n ≤ H2.n := u2.fr.n
        obtain ⟨H4, ht, t4⟩ := t.tidied (v := .bool true) t3 ((s1.any.then u2.fr fun _ _ _ => trivial).then u3.fr fun _ _ _ => trivial)
        refine ⟨_, H4, (d_law_does _ _ _ H (r := (.bool true, H3)) ?_).trans (congrArg some ht), t4⟩
        generalize (insertE l ⟨a.key, a.value⟩).1 = e at hp2 hp3
        simp (disch := first | with_reducible rfl | assumption | omega | rfl | (simp only [go_sem]; first | done | omega)) only [go_sem, ↓reduceIte, reduceCtorEq, Nat.reduceEqDiff, Nat.reduceAdd, Nat.reduceSub, Nat.reduceMul, Nat.reduceDiv, Nat.reduceMod, Nat.reduceLeDiff, Nat.reduceLT, Nat.reduceBEq, Int.reduceEq, Int.reduceBEq, Int.reduceBNe, Int.reduceLT, Int.reduceLE, Int.reduceAdd, Int.reduceSub, Int.reduceNeg, Int.reduceToNat, Int.reducePow, Nat.reducePow, Int.reduceMul, Int.reduceDiv, ↓s_law_does, hH1, f1, decide_eq_false w0, decide_eq_false w1, decide_eq_true w2, enterK_eq hp2, f2, enterK_eq hp3]
      · by_cases w3 : a.what = 3
        · obtain ⟨s, e, hse⟩ := getE_shape l a.key
          obtain ⟨H2, hp2, x2, u2⟩ := q_delR bx l a.key H1 t1.ok t1.x t1.srt t1.len
          have m2 := (sep t1.m (fun c h1 h2 => t1.dis c h2 h1) u2).1
          obtain ⟨H3, hp3, m3, u3⟩ := q_deletes bm l a.key s e H2 (t1.ok.fr u2.fr) m2 t1.srt t1.len hse
          rw [hse] at hp2
          have t3 := t1.stepx x2 u2 m3 u3 (srt_delE t1.srt _) (len_delE t1.len _)
          have f2 : H2.f H.n = .cells [.int .i64 a.what, .string a.key, .string a.value, .string a.old, .int .i64 a.limit] T.law_Act true := by rw [u2.fr.f (by omega) hnox, f1]
          obtain ⟨H4, ht, t4⟩ := t.tidied (v := .bool true) t3 ((s1.any.then u2.fr fun _ _ _ => trivial).then u3.fr fun _ _ _ => trivial)
          refine ⟨_, H4, (d_law_does _ _ _ H (r := (.bool true, H3)) ?_).trans (congrArg some ht), t4⟩
          simp (disch := first | with_reducible rfl | assumption | omega | rfl | (simp only [go_sem]; first | done | omega)) only [go_sem, ↓reduceIte, reduceCtorEq, Nat.reduceEqDiff, Nat.reduceAdd, Nat.reduceSub, Nat.reduceMul, Nat.reduceDiv, Nat.reduceMod, Nat.reduceLeDiff, Nat.reduceLT, Nat.reduceBEq, Int.reduceEq, Int.reduceBEq, Int.reduceBNe, Int.reduceLT, Int.reduceLE, Int.reduceAdd, Int.reduceSub, Int.reduceNeg, Int.reduceToNat, Int.reducePow, Nat.reducePow, Int.reduceMul, Int.reduceDiv, ↓s_law_does, hH1, f1, decide_eq_false w0, decide_eq_false w1, decide_eq_false w2, decide_eq_true w3, enterK_eq hp2, f2, enterK_eq hp3]
        · by_cases w4 : a.what = 4
          · obtain ⟨H2, hp2, m2, u2⟩ := q_swapM bm l a.key a.old a.value H1 t1.ok t1.m t1.srt t1.len
            obtain ⟨H3, hp3, x3, u3⟩ := q_swapR bx l a.key a.old a.value H2 (t1.ok.fr u2.fr) (t1.midx u2) t1.srt t1.len
            have t3 := t1.step m2 u2 x3 u3 (srt_swapE t1.srt _ _ _) (len_swapE t1.len _ _ _)
            have f2 : H2.f H.n = .cells [.int .i64 a.what, .string a.key, .string a.value, .string a.old, .int .i64 a.limit] T.law_Act true := by rw [u2.fr.f (by omega) hno, f1]
            have hver : H2.ver H.n = H1.ver H.n := u2.fr.ver (by omega) hno
            have hnn : H1.n ≤ H2.n := u2.fr.n
            obtain ⟨H4, ht, t4⟩ := t.tidied (v := .bool true) t3 ((s1.any.then u2.fr fun _ _ _ => trivial).then u3.fr fun _ _ _ => trivial)
            refine ⟨_, H4, (d_law_does _ _ _ H (r := (.bool true, H3)) ?_).trans (congrArg some ht), t4⟩
            generalize (swapE l a.key a.old a.value).1 = e at hp2 hp3
            simp (disch := first | with_reducible rfl | assumption | omega | rfl | (simp only [go_sem]; first | done | omega)) only [go_sem, ↓reduceIte, reduceCtorEq, Nat.reduceEqDiff, Nat.reduceAdd, Nat.reduceSub, Nat.reduceMul, Nat.reduceDiv, Nat.reduceMod, Nat.reduceLeDiff, Nat.reduceLT, Nat.reduceBEq, Int.reduceEq, Int.reduceBEq, Int.reduceBNe, Int.reduceLT, Int.reduceLE, Int.reduceAdd, Int.reduceSub, Int.reduceNeg, Int.reduceToNat, Int.reducePow, Nat.reducePow, Int.reduceMul, Int.reduceDiv, ↓s_law_does, hH1, f1, decide_eq_false w0, decide_eq_false w1, decide_eq_false w2, decide_eq_false w3, decide_eq_true w4, enterK_eq hp2, f2, enterK_eq hp3]
          · by_cases w5 : a.what = 5
            · obtain ⟨w, H2, hr, hw, s2⟩ := q_rangeR bx l a.key a.old a.limit H1 t1.x t1.srt t1.len
              have t2 := t1.still s2
              have hrs := q_ranges bm l _ a.key a.old a.limit _ w H2 t2.m t2.srt t2.len hw rfl rfl
              have f2 : H2.f H.n = .cells [.int .i64 a.what, .string a.key, .string a.value, .string a.old, .int .i64 a.limit] T.law_Act true := by rw [s2.f (by omega) (fun h => h), f1]
              generalize (rangeE l a.key a.old a.limit).1 = e at hr hrs
              refine ⟨l, H, ?_, t⟩
              refine pure_of (H' := H2) ?_ (d_law_does _ _ _ H) rfl (s1.then s2 fun _ _ h => h)
              simp (disch := first | with_reducible rfl | assumption | omega | rfl | (simp only [go_sem]; first | done | omega)) only [go_sem, ↓reduceIte, reduceCtorEq, Nat.reduceEqDiff, Nat.reduceAdd, Nat.reduceSub, Nat.reduceMul, Nat.reduceDiv, Nat.reduceMod, Nat.reduceLeDiff, Nat.reduceLT, Nat.reduceBEq, Int.reduceEq, Int.reduceBEq, Int.reduceBNe, Int.reduceLT, Int.reduceLE, Int.reduceAdd, Int.reduceSub, Int.reduceNeg, Int.reduceToNat, Int.reducePow, Nat.reducePow, Int.reduceMul, Int.reduceDiv, ↓s_law_does, hH1, f1, decide_eq_false w0, decide_eq_false w1, decide_eq_false w2, decide_eq_false w3, decide_eq_false w4, decide_eq_true w5, enterK_eq hr, f2, enterK_eq hrs]
            · refine ⟨l, H, ?_, t⟩
              refine pure_of (H' := H1) ?_ (d_law_does _ _ _ H) rfl s1
              simp (disch := first | with_reducible rfl | assumption | omega | rfl | (simp only [go_sem]; first | done | omega)) only [go_sem, ↓reduceIte, reduceCtorEq, Nat.reduceEqDiff, Nat.reduceAdd, Nat.reduceSub, Nat.reduceMul, Nat.reduceDiv, Nat.reduceMod, Nat.reduceLeDiff, Nat.reduceLT, Nat.reduceBEq, Int.reduceEq, Int.reduceBEq, Int.reduceBNe, Int.reduceLT, Int.reduceLE, Int.reduceAdd, Int.reduceSub, Int.reduceNeg, Int.reduceToNat, Int.reducePow, Nat.reducePow, Int.reduceMul, Int.reduceDiv, ↓s_law_does, hH1, f1, decide_eq_false w0, decide_eq_false w1, decide_eq_false w2, decide_eq_false w3, decide_eq_false w4, decide_eq_false w5]

@[go_sem] theorem mp_ne_some {ox oy : Operand} {a : Addr} : xbin Try.prog .neq T.p_model_Model ox oy (.pointer (some a)) (.pointer none) = some (.bool true) := by kernel_rfl

theorem l_Plays (l : List Act) (v : Value) (bx : Nat) (Hz : AHeap) (hr0 : Rd EAct Hz v l) : ∀ (x : List Act) (i : Nat) (H : AHeap) (bm : Nat) (c : List Pr), l.drop i = x → i ≤ l.length → l.length ≤ 40 → Two Hz H bm bx c → ∃ H', ∀ K : K,
    l_law_ModelPlays_0 v (.pointer (some ⟨bm, 0, none⟩)) (.pointer (some ⟨bx, 0, none⟩)) (.int .i64 i) H (blkK [] 0 (seqK (fun _ h9 => K .ret [(2, .bool true)] h9) K)) = K .ret [(2, .bool true)] H'
  | [], i, H, bm, c, hx, hi, hl, t => by
    have h : l.length ≤ i := List.drop_eq_nil_iff.1 hx
    have hlt : ¬ (i : Int) < (l.length : Int) := by omega
    have hlen := hr0.lenS
    refine ⟨H, fun K => ?_⟩
    rw [r_law_ModelPlays_0]
    simp (disch := first | with_reducible rfl | assumption | omega | rfl | (simp only [go_sem]; first | done | omega)) only [go_sem, ↓reduceIte, reduceCtorEq, Nat.reduceEqDiff, Nat.reduceAdd, Nat.reduceSub, Nat.reduceMul, Nat.reduceDiv, Nat.reduceMod, Nat.reduceLeDiff, Nat.reduceLT, Nat.reduceBEq, Int.reduceEq, Int.reduceBEq, Int.reduceBNe, Int.reduceLT, Int.reduceLE, Int.reduceAdd, Int.reduceSub, Int.reduceNeg, Int.reduceToNat, Int.reducePow, Nat.reducePow, Int.reduceMul, Int.reduceDiv, ↓s_law_ModelPlays_b0, hlen, hlt]
  | a :: x, i, H, bm, c, hx, hi, hl, t => by
    obtain ⟨h, hxa, hx'⟩ := drop_cons hx
    have hlt : (i : Int) < (l.length : Int) := by omega
    have hlen := hr0.lenS
    obtain ⟨b1, o1, hix, hb1, hc1, _⟩ := hr0.ix (q := .i64) h
    rw [hxa] at hc1
    have hix : ixS 5 v (.int .i64 i) = some (.pointer (some ⟨b1, o1, none⟩)) := hix
    have hca : ∀ H : AHeap, H.f b1 = Hz.f b1 → cutB (H.f b1) o1 5 = some [.int .i64 a.what, .string a.key, .string a.value, .string a.old, .int .i64 a.limit] := fun H h => by rw [h]; exact hc1
    have hcw : ∀ H : AHeap, H.f b1 = Hz.f b1 → cellB (H.f b1) o1 = some (.int .i64 a.what) := fun H h => by rw [h]; exact cutB_cell hc1 (i := 0) (by decide)
    have fb : H.f b1 = Hz.f b1 := t.base.f hb1 (fun h => h)
    have ha0 := hca H fb
    have hsh := q_short a H
    cases hsa : shortA a with
    | false =>
      rw [hsa] at hsh
      refine ⟨H, fun K => ?_⟩
      rw [r_law_ModelPlays_0]
      simp (disch := first | with_reducible rfl | assumption | omega | rfl | (simp only [go_sem]; first | done | omega)) only [go_sem, ↓reduceIte, reduceCtorEq, Nat.reduceEqDiff, Nat.reduceAdd, Nat.reduceSub, Nat.reduceMul, Nat.reduceDiv, Nat.reduceMod, Nat.reduceLeDiff, Nat.reduceLT, Nat.reduceBEq, Int.reduceEq, Int.reduceBEq, Int.reduceBNe, Int.reduceLT, Int.reduceLE, Int.reduceAdd, Int.reduceSub, Int.reduceNeg, Int.reduceToNat, Int.reducePow, Nat.reducePow, Int.reduceMul, Int.reduceDiv, ↓s_law_ModelPlays_b0, hlen, hlt, mp_some, mp_ne_some, hix, ha0, enterK_eq hsh]
    | true =>
      rw [hsa] at hsh
      obtain ⟨c1, H1, hd, t1⟩ := q_does a bm bx c Hz H t
      have hw1 := hcw H1 (t1.base.f hb1 (fun h => h))
      by_cases hcopy : a.what < 0 ∨ 5 < a.what
      · obtain ⟨b2, H2, hcp, m2, s2, hb2, hmb2⟩ := q_MCopy bm c1 H1 t1.m (by have := t1.len; omega)
        have t2 := t1.still s2
        obtain ⟨H3, hp3, m3, u3⟩ := q_putM bm c1 ⟨mk [111, 110, 108, 121, 32, 104, 101, 114, 101], mk [49]⟩ H2 t2.ok t2.m t2.srt t2.len
        have x3 := t2.midx u3
        have hn1 : Hz.n ≤ H1.n := t1.base.n
        -- the copy is as it was
        have dis2 : ∀ d, MB H2 bm d → ¬ MB H2 b2 d := fun d h1 h2 => by have := t1.m.blk (MBT_still t1.m s2 h1); have := hmb2 d h2; omega
        obtain ⟨mc3, hmc3, _⟩ := sep m2 dis2 u3
        obtain ⟨_, hx3, _⟩ := sep t2.x t2.dis u3
        have b3 : Still Hz H3 := t2.base.still.then u3.fr fun d hd h => by have := t2.lom d h; omega
        have t3 : Two Hz H3 b2 bx c1 := ⟨t2.ok.fr u3.fr, b3, mc3, x3, fun d h1 h2 => by
          have h1 := hmb2 d (hmc3 d h1)
          have h2 := t1.x.blk (MBT_still t1.x s2 (hx3 d h2))
          omega, fun d h => by have := hmb2 d (hmc3 d h); omega, fun d h => t2.lox d (hx3 d h), t1.srt, t1.len⟩
        have hal := q_alike b2 bx c1 H3 t3.m t3.x t3.len
        obtain ⟨H', ih⟩ := l_Plays l v bx Hz hr0 x (i + 1) H3 b2 c1 hx' h hl t3
        refine ⟨H', fun K => ?_⟩
        have ih := ih K
        rw [Int.natCast_add] at ih
        generalize (putE c1 ⟨mk [111, 110, 108, 121, 32, 104, 101, 114, 101], mk [49]⟩).1 = e at hp3
        rw [r_law_ModelPlays_0]
        by_cases hneg : a.what < 0
        · simp (disch := first | with_reducible rfl | assumption | omega | rfl | (simp only [go_sem]; first | done | omega)) only [go_sem, ↓reduceIte, reduceCtorEq, Nat.reduceEqDiff, Nat.reduceAdd, Nat.reduceSub, Nat.reduceMul, Nat.reduceDiv, Nat.reduceMod, Nat.reduceLeDiff, Nat.reduceLT, Nat.reduceBEq, Int.reduceEq, Int.reduceBEq, Int.reduceBNe, Int.reduceLT, Int.reduceLE, Int.reduceAdd, Int.reduceSub, Int.reduceNeg, Int.reduceToNat, Int.reducePow, Nat.reducePow, Int.reduceMul, Int.reduceDiv, ↓s_law_ModelPlays_b0, hlen, hlt, mp_some, mp_ne_some, hix, ha0, enterK_eq hsh, enterK_eq hd, hw1, decide_eq_true hneg, enterK_eq hcp, enterK_eq hp3, enterK_eq hal]
          exact ih
        · have h5 : 5 < a.what := by omega
          simp (disch := first | with_reducible rfl | assumption | omega | rfl | (simp only [go_sem]; first | done | omega)) only [go_sem, ↓reduceIte, reduceCtorEq, Nat.reduceEqDiff, Nat.reduceAdd, Nat.reduceSub, Nat.reduceMul, Nat.reduceDiv, Nat.reduceMod, Nat.reduceLeDiff, Nat.reduceLT, Nat.reduceBEq, Int.reduceEq, Int.reduceBEq, Int.reduceBNe, Int.reduceLT, Int.reduceLE, Int.reduceAdd, Int.reduceSub, Int.reduceNeg, Int.reduceToNat, Int.reducePow, Nat.reducePow, Int.reduceMul, Int.reduceDiv, ↓s_law_ModelPlays_b0, hlen, hlt, mp_some, mp_ne_some, hix, ha0, enterK_eq hsh, enterK_eq hd, hw1, decide_eq_false hneg, decide_eq_true h5, enterK_eq hcp, enterK_eq hp3, enterK_eq hal]
          exact ih
      · have hneg : ¬ a.what < 0 := fun h => hcopy (.inl h)
        have h5 : ¬ 5 < a.what := fun h => hcopy (.inr h)
        have hal := q_alike bm bx c1 H1 t1.m t1.x t1.len
        obtain ⟨H', ih⟩ := l_Plays l v bx Hz hr0 x (i + 1) H1 bm c1 hx' h hl t1
        refine ⟨H', fun K => ?_⟩
        have ih := ih K
        rw [Int.natCast_add] at ih
        rw [r_law_ModelPlays_0]
        simp (disch := first | with_reducible rfl | assumption | omega | rfl | (simp only [go_sem]; first | done | omega)) only [go_sem, ↓reduceIte, reduceCtorEq, Nat.reduceEqDiff, Nat.reduceAdd, Nat.reduceSub, Nat.reduceMul, Nat.reduceDiv, Nat.reduceMod, Nat.reduceLeDiff, Nat.reduceLT, Nat.reduceBEq, Int.reduceEq, Int.reduceBEq, Int.reduceBNe, Int.reduceLT, Int.reduceLE, Int.reduceAdd, Int.reduceSub, Int.reduceNeg, Int.reduceToNat, Int.reducePow, Nat.reducePow, Int.reduceMul, Int.reduceDiv, ↓s_law_ModelPlays_b0, hlen, hlt, mp_some, mp_ne_some, hix, ha0, enterK_eq hsh, enterK_eq hd, hw1, decide_eq_false hneg, decide_eq_false h5, enterK_eq hal]
        exact ih

theorem two0 (H : AHeap) (ok : Ok H) : Two H ((H.push (.cells [.slice none 0 0] T.model_Model true)).push (.cells [.slice none 0 0] T.ref24_Model true)) H.n (H.n + 1) [] := by
  have s : Still H ((H.push (.cells [.slice none 0 0] T.model_Model true)).push (.cells [.slice none 0 0] T.ref24_Model true)) := ((Fr.refl H).push _).push _
  have f1 : ((H.push (.cells [.slice none 0 0] T.model_Model true)).push (.cells [.slice none 0 0] T.ref24_Model true)).f H.n = .cells [.slice none 0 0] T.model_Model true := by rw [push_f_ne (by simp), push_f_eq rfl]
  have f2 : ((H.push (.cells [.slice none 0 0] T.model_Model true)).push (.cells [.slice none 0 0] T.ref24_Model true)).f (H.n + 1) = .cells [.slice none 0 0] T.ref24_Model true := push_f_eq rfl
  refine ⟨ok.fr s, s, ⟨_, f1, by simp; omega, .inl ⟨rfl, rfl⟩, by simp [blockOf]⟩, ⟨_, f2, by simp, .inl ⟨rfl, rfl⟩, by simp [blockOf]⟩, ?_, ?_, ?_, List.Pairwise.nil, by simp⟩
  · intro c h1 h2
    have e1 : c = H.n := h1.elim id fun ⟨u, hu, hb⟩ => by rw [f1] at hu; cases hu; cases hb
    have e2 : c = H.n + 1 := h2.elim id fun ⟨u, hu, hb⟩ => by rw [f2] at hu; cases hu; cases hb
    omega
  · intro c h1
    have e1 : c = H.n := h1.elim id fun ⟨u, hu, hb⟩ => by rw [f1] at hu; cases hu; cases hb
    omega
  · intro c h1
    have e1 : c = H.n + 1 := h1.elim id fun ⟨u, hu, hb⟩ => by rw [f2] at hu; cases hu; cases hb
    omega

theorem q_ModelPlays (l : List Act) (v : Value) (H : AHeap) (ok : Ok H) (hr : Rd EAct H v l) : ∃ H', CC F.law_ModelPlays [v] H = some (.bool true, H') := by
  have hlen := hr.lenS
  by_cases h1 : 40 < (l.length : Int)
  · refine any_of (H1 := ?_) (d_law_ModelPlays _ H ?_)
    rotate_left 1
    · simp (disch := first | with_reducible rfl | assumption | omega | rfl | (simp only [go_sem]; first | done | omega)) only [go_sem, ↓reduceIte, reduceCtorEq, Nat.reduceEqDiff, Nat.reduceAdd, Nat.reduceSub, Nat.reduceMul, Nat.reduceDiv, Nat.reduceMod, Nat.reduceLeDiff, Nat.reduceLT, Nat.reduceBEq, Int.reduceEq, Int.reduceBEq, Int.reduceBNe, Int.reduceLT, Int.reduceLE, Int.reduceAdd, Int.reduceSub, Int.reduceNeg, Int.reduceToNat, Int.reducePow, Nat.reducePow, Int.reduceMul, Int.reduceDiv, ↓s_law_ModelPlays, hlen, decide_eq_true h1]
      rfl
  · have t0 := two0 H ok
    generalize hH1 : (H.push (.cells [.slice none 0 0] T.model_Model true)).push (.cells [.slice none 0 0] T.ref24_Model true) = H1 at t0
    obtain ⟨H2, hloop⟩ := l_Plays l v (H.n + 1) H hr l 0 H1 H.n [] rfl (by omega) (by omega) t0
    refine any_of (H1 := H2) (d_law_ModelPlays _ H ?_)
    simp (disch := first | with_reducible rfl | assumption | omega | rfl | (simp only [go_sem]; first | done | omega)) only [go_sem, ↓reduceIte, reduceCtorEq, Nat.reduceEqDiff, Nat.reduceAdd, Nat.reduceSub, Nat.reduceMul, Nat.reduceDiv, Nat.reduceMod, Nat.reduceLeDiff, Nat.reduceLT, Nat.reduceBEq, Int.reduceEq, Int.reduceBEq, Int.reduceBNe, Int.reduceLT, Int.reduceLE, Int.reduceAdd, Int.reduceSub, Int.reduceNeg, Int.reduceToNat, Int.reducePow, Nat.reducePow, Int.reduceMul, Int.reduceDiv, ↓s_law_ModelPlays, hlen, decide_eq_false h1, hH1]
    exact hloop (endK Try.prog [.tmp 2])

theorem decAct {W : World} {H : Type} {enc : TypeId × Value → H} {cs : List Value} {n : Nat} {y : DataW H × List MemPlace} (h : DataW.trod enc Try.prog W 0 (fun _ => true) true n T.law_Act cs = some y) (hl : cs.length = EAct.w) :
    ∃ a : Act, cs = EAct.enc a ∧ True ∧ cs.all plain = true := by
  have ht := Try.underlying49
  obtain ⟨c0, c1, c2, c3, c4, rfl⟩ : ∃ c0 c1 c2 c3 c4, cs = [c0, c1, c2, c3, c4] := by
    match cs, hl with
    | [c0, c1, c2, c3, c4], _ => exact ⟨_, _, _, _, _, rfl⟩
  obtain ⟨m0, z0, h0⟩ := dec_field ht h (i := 0) rfl rfl (by kernel_rfl) rfl
  obtain ⟨m1, z1, h1⟩ := dec_field ht h (i := 1) rfl rfl (by kernel_rfl) rfl
  obtain ⟨m2, z2, h2⟩ := dec_field ht h (i := 2) rfl rfl (by kernel_rfl) rfl
  obtain ⟨m3, z3, h3⟩ := dec_field ht h (i := 3) rfl rfl (by kernel_rfl) rfl
  obtain ⟨m4, z4, h4⟩ := dec_field ht h (i := 4) rfl rfl (by kernel_rfl) rfl
  obtain ⟨s0, rfl, _⟩ := dec_int Try.underlying3 h0
  obtain ⟨s1, rfl, _⟩ := dec_str Try.underlying9 h1
  obtain ⟨s2, rfl, _⟩ := dec_str Try.underlying9 h2
  obtain ⟨s3, rfl, _⟩ := dec_str Try.underlying9 h3
  obtain ⟨s4, rfl, _⟩ := dec_int Try.underlying3 h4
  exact ⟨⟨s0, s1, s2, s3, s4⟩, rfl, trivial, rfl⟩

theorem run_ModelPlays (W : World) (v : Value) (l : List Act) (hr : Rd EAct (absHeap W) v l) (_ : ∀ a, a ∈ l → True) (_ : l.length ≤ maxLen) :
    ∃ k H', dCall Try.prog prims1 hints k F.law_ModelPlays [v] (absHeap W) = some (.bool true, H') := by
  obtain ⟨H', h⟩ := q_ModelPlays l v (absHeap W) (absHeap_ok W) hr
  obtain ⟨k, h⟩ := D_run h
  exact ⟨k, _, h⟩

end Go.Proofs.Ytlagijfkkpbbnaa
