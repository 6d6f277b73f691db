/-
  5 texts in one (merge.py): Yr ShBackupDecodes DsBackupDecodes Yd LawBackupDecodes.
  Conditions: none. By an AI agent.
-/
import Derived.Test.YtehnchfnhbmkdaaQc1
import Derived.Test.YtehnchfnhbmkdaaChecked
import Derived.KernelRfl
import Derived.Test.YtehnchfnhbmkdaaRows
import Derived.WalkKit
import Derived.ProofKit
import Derived.OpenShut
import Derived.ShutString
import Derived.ChangeOld
import Derived.Below
import Derived.SizedLaws
import Derived.ChangeArms
import Derived.Carry

/-
  Chapter 48: read and right.
  Conditions: none. By an AI agent.
-/
set_option maxRecDepth 10000
set_option linter.unusedSimpArgs false
set_option linter.unusedVariables false
namespace Go.Proofs.Ytehnchfnhbmkdaa
open Go Eng

structure SinceP (H0 H : AHeap) (v : Value) (l : List Pr) : Prop where
  still : Still H0 H
  own : Own EPr H T.api_Pair v l
  new : ∀ b, blockOf v = some b → H0.n ≤ b

theorem SinceP.more {H0 H : AHeap} {v : Value} {l : List Pr} (r : SinceP H0 H v l) (a : Pr) (hl : l.length ≤ 100000) {H1 : AHeap} (h1 : H.push (.cells [.string a.key, .string a.value] T.api_Pair true) = H1) :
    ∃ v' H', Eng.app T.api_Pair 2 32 v (srcS 2 (.slice (some ⟨H.n, 0, none⟩) 1 2) H1) H1 = some (v', H') ∧ SinceP H0 H' v' (l ++ [a]) := by
  have s1 : Still H H1 := by rw [← h1]; exact (Fr.refl H).push _
  have f1 : H1.f H.n = .cells [.string a.key, .string a.value] T.api_Pair true := by rw [← h1]; exact push_f_eq rfl
  obtain ⟨v', H', e1, e2, e3, e4, _⟩ := (r.own.still s1).app (m := [a]) (by simp) (sz := 2) (bytes := 32) rfl (by simp; omega) (by simp; omega) (srcOne f1)
  refine ⟨v', H', e1, (r.still.trans s1).then e3 fun b hb h => by unfold OnlyOf at h; have := r.new b h; omega, e2, fun b h => ?_⟩
  rcases e4 with e4 | e4
  · rw [e4] at h; exact r.new b h
  · rw [e4] at h; cases h; have := r.still.n; have := s1.n; omega
theorem SinceP.value {H0 H : AHeap} {v : Value} {l : List Pr} (r : SinceP H0 H v l) {i : Nat} (hi : i < l.length) (x : ByteArray) :
    ∃ b o H', ixS 2 v (.int .i64 (i : Int)) = some (.pointer (some ⟨b, o, none⟩)) ∧ setB H b (wr1 (H.f b) (o + 1) (.string x)) = some H' ∧ SinceP H0 H' v (l.set i ⟨l[i].key, x⟩) := by
  obtain ⟨b, o, H', e1, e2, e3, e4, e5, e6, e7⟩ := r.own.writeV hi x
  refine ⟨b, o, H', e1, e2, r.still.then e7 fun c hc h => ?_, e3, r.new⟩
  subst h
  have := r.new _ e4; omega

/-! ### One string -/
theorem rd_none {l : List UInt8} {v0 : Value} {H : AHeap} (hr : BR H v0 l) (hl : l.length ≤ 20000) {at_ : Nat} (ht : takeL (l.drop at_) = none) (v4 v6 v8 v9 : Value) (kv : Int) (hk : kv < 2) :
    ∀ K : K, l_law_read_2 v0 v4 v6 (.int .i64 (at_ : Int)) v8 v9 (.int .i64 kv) H (blkK [0, 4, 6, 7, 8] 4 K) = K .ret [(2, .slice none 0 0), (3, .bool false)] H := fun K => by
  have hlen := hr.1.lenS
  cases hd : l.drop at_ with
  | nil =>
    have hge : (l.length : Int) ≤ (at_ : Int) := by have := List.drop_eq_nil_iff.1 hd; omega
    rw [r_law_read_2]
    simp (disch := first | with_reducible rfl | assumption | omega | rfl | (simp only [go_sem]; first | done | omega)) only [go_sem, ↓reduceIte, reduceCtorEq, Nat.reduceEqDiff, Nat.reduceAdd, Nat.reduceSub, Nat.reduceMul, Nat.reduceDiv, Nat.reduceMod, Nat.reduceLeDiff, Nat.reduceLT, Nat.reduceBEq, Int.reduceEq, Int.reduceBEq, Int.reduceBNe, Int.reduceLT, Int.reduceLE, Int.reduceAdd, Int.reduceSub, Int.reduceNeg, Int.reduceToNat, Int.reducePow, Nat.reducePow, Int.reduceMul, Int.reduceDiv, ↓s_law_read_b2, hk, hlen, hge]
  | cons c t =>
    obtain ⟨hi, hxa, hx'⟩ := drop_cons hd
    rw [hd, show takeL (c :: t) = if c.toNat ≤ t.length then some (t.take c.toNat, t.drop c.toNat) else none from rfl] at ht
    have hc : ¬ c.toNat ≤ t.length := fun h => by rw [if_pos h] at ht; cases ht
    have htl : t.length = l.length - (at_ + 1) := by rw [← hx']; simp
    obtain ⟨b0, o0, i0, c0, _, _⟩ := hr.1.byte hi
    rw [hxa] at c0
    have uc := Eng.u8_lt c
    have hw : IntKind.wrap .i64 (c.toNat : Int) = (c.toNat : Int) := wrap_i64 ⟨by omega, by omega⟩
    have hge : ¬ (l.length : Int) ≤ (at_ : Int) := by omega
    have hge2 : (l.length : Int) ≤ (at_ : Int) + (c.toNat : Int) := by omega
    rw [r_law_read_2]
    simp (disch := first | with_reducible rfl | assumption | omega | rfl | (simp only [go_sem]; first | done | omega)) only [go_sem, ↓reduceIte, reduceCtorEq, Nat.reduceEqDiff, Nat.reduceAdd, Nat.reduceSub, Nat.reduceMul, Nat.reduceDiv, Nat.reduceMod, Nat.reduceLeDiff, Nat.reduceLT, Nat.reduceBEq, Int.reduceEq, Int.reduceBEq, Int.reduceBNe, Int.reduceLT, Int.reduceLE, Int.reduceAdd, Int.reduceSub, Int.reduceNeg, Int.reduceToNat, Int.reducePow, Nat.reducePow, Int.reduceMul, Int.reduceDiv, ↓s_law_read_b2, hk, hlen, hge, i0, c0, x_uint8_int, hw, hge2]

theorem rd_some {l : List UInt8} {v0 : Value} {H : AHeap} (hr : BR H v0 l) (hl : l.length ≤ 20000) {at_ : Nat} {s t2 : List UInt8} (ht : takeL (l.drop at_) = some (s, t2)) :
    ∃ b o w, ixS 1 v0 (.int .i64 (at_ : Int)) = some (.pointer (some ⟨b, o, none⟩)) ∧ cellB (H.f b) o = some (.int .u8 (s.length : Int)) ∧ s.length < 256 ∧ at_ + s.length < l.length ∧
      slS T.uint8 1 v0 (some (.int .i64 ((at_ : Int) + 1))) (some (.int .i64 ((at_ : Int) + 1 + (s.length : Int)))) none H = some w ∧ BR H w s ∧ l.drop (at_ + 1 + s.length) = t2 := by
  cases hd : l.drop at_ with
  | nil => rw [hd] at ht; cases ht
  | cons c t =>
    obtain ⟨hi, hxa, hx'⟩ := drop_cons hd
    rw [hd, show takeL (c :: t) = if c.toNat ≤ t.length then some (t.take c.toNat, t.drop c.toNat) else none from rfl] at ht
    have hc : c.toNat ≤ t.length := by
      by_cases h : c.toNat ≤ t.length
      · exact h
      · rw [if_neg h] at ht; cases ht
    rw [if_pos hc] at ht
    injection ht with ht
    injection ht with h1 h2
    have htl : t.length = l.length - (at_ + 1) := by rw [← hx']; simp
    have hsl : s.length = c.toNat := by rw [← h1]; simp; omega
    obtain ⟨b0, o0, i0, c0, _, _⟩ := hr.1.byte hi
    rw [hxa] at c0
    have uc := Eng.u8_lt c
    obtain ⟨w, a1, r1, _⟩ := hr.mid (sz := 1) rfl (i := at_ + 1) (j := at_ + 1 + c.toNat) (q := .i64) (q' := .i64) (by omega) (by omega)
    rw [hx', Nat.add_sub_cancel_left, h1] at r1
    rw [hsl]
    refine ⟨b0, o0, w, i0, c0, by omega, by omega, a1, r1, ?_⟩
    rw [← List.drop_drop, hx', h2]

theorem rd_k0 {l : List UInt8} {v0 : Value} {H0 H : AHeap} (hr : BR H0 v0 l) (hl : l.length ≤ 20000) {at_ : Nat} {s t2 : List UInt8} (ht : takeL (l.drop at_) = some (s, t2)) (v4 v6 v8 : Value) (key : List UInt8) (hk : key.length ≤ 1000) {acc : List Pr} (sp : SinceP H0 H v6 acc) (ha : acc.length ≤ 100000) :
    ∃ v6' H', SinceP H0 H' v6' (acc ++ [⟨mk (key ++ s), mk []⟩]) ∧ ∀ K : K, l_law_read_2 v0 v4 v6 (.int .i64 (at_ : Int)) v8 (.string (mk key)) (.int .i64 0) H (blkK [0, 4, 6, 7, 8] 4 K) = l_law_read_2 v0 v4 v6' (.int .i64 ((at_ + 1 + s.length : Nat) : Int)) v8 (.string (mk key)) (.int .i64 1) H' (blkK [0, 4, 6, 7, 8] 4 K) := by
  have hr := hr.still sp.still
  obtain ⟨b, o, w, i0, c0, h256, hlt, a1, r1, _⟩ := rd_some hr hl ht
  have hlen := hr.1.lenS
  have hw : IntKind.wrap .i64 (s.length : Int) = (s.length : Int) := wrap_i64 ⟨by omega, by omega⟩
  have hge : ¬ (l.length : Int) ≤ (at_ : Int) := by omega
  have hge2 : ¬ (l.length : Int) ≤ (at_ : Int) + (s.length : Int) := by omega
  have st := BR.str r1
  have add1 : ∀ ox oy, xbin Try.prog .add T.string ox oy (.string (mk key)) (.string (mk s)) = some (.string (mk (key ++ s))) := fun ox oy => by
    have := str_add (t := T.string) (ox := ox) (oy := oy) (a := mk key) (b := mk s) (by rw [bl_mk, bl_mk]; omega)
    rwa [bl_mk, bl_mk] at this
  obtain ⟨H1, hH1⟩ : ∃ H1, H.push (.cells [.string (mk (key ++ s)), .string (mk [])] T.api_Pair true) = H1 := ⟨_, rfl⟩
  obtain ⟨v6', H', e1, e2⟩ := sp.more ⟨mk (key ++ s), mk []⟩ ha hH1
  refine ⟨v6', H', e2, fun K => ?_⟩
  rw [r_law_read_2, Int.natCast_add, Int.natCast_add]
  simp (disch := first | with_reducible rfl | assumption | omega | rfl | (simp only [go_sem]; first | done | omega)) only [go_sem, ↓reduceIte, reduceCtorEq, Nat.reduceEqDiff, Nat.reduceAdd, Nat.reduceSub, Nat.reduceMul, Nat.reduceDiv, Nat.reduceMod, Nat.reduceLeDiff, Nat.reduceLT, Nat.reduceBEq, Int.reduceEq, Int.reduceBEq, Int.reduceBNe, Int.reduceLT, Int.reduceLE, Int.reduceAdd, Int.reduceSub, Int.reduceNeg, Int.reduceToNat, Int.reducePow, Nat.reducePow, Int.reduceMul, Int.reduceDiv, ↓s_law_read_b2, hlen, hge, i0, c0, x_uint8_int, hw, hge2, a1, st, bl_mk, add1, hH1, e1]

theorem rd_k1 {l : List UInt8} {v0 : Value} {H0 H : AHeap} (hr : BR H0 v0 l) (hl : l.length ≤ 20000) {at_ : Nat} {s t2 : List UInt8} (ht : takeL (l.drop at_) = some (s, t2)) (v4 v6 v9 : Value) {acc : List Pr} (sp : SinceP H0 H v6 acc) {i : Nat} (hi : i < acc.length) :
    ∃ H', SinceP H0 H' v6 (acc.set i ⟨acc[i].key, mk s⟩) ∧ ∀ K : K, l_law_read_2 v0 v4 v6 (.int .i64 (at_ : Int)) (.int .i64 (i : Int)) v9 (.int .i64 1) H (blkK [0, 4, 6, 7, 8] 4 K) = K .normal [(0, v0), (4, v4), (6, v6), (7, .int .i64 ((at_ + 1 + s.length : Nat) : Int)), (8, .int .i64 (i : Int))] H' := by
  have hr := hr.still sp.still
  obtain ⟨b, o, w, i0, c0, h256, hlt, a1, r1, _⟩ := rd_some hr hl ht
  have hlen := hr.1.lenS
  have hw : IntKind.wrap .i64 (s.length : Int) = (s.length : Int) := wrap_i64 ⟨by omega, by omega⟩
  have hge : ¬ (l.length : Int) ≤ (at_ : Int) := by omega
  have hge2 : ¬ (l.length : Int) ≤ (at_ : Int) + (s.length : Int) := by omega
  have st := BR.str r1
  obtain ⟨b2, o2, H', ix, wr, e2⟩ := sp.value hi (mk s)
  have end_ : ∀ (x : Value) K, l_law_read_2 v0 v4 v6 x (.int .i64 (i : Int)) v9 (.int .i64 2) H' (blkK [0, 4, 6, 7, 8] 4 K) = K .normal [(0, v0), (4, v4), (6, v6), (7, x), (8, .int .i64 (i : Int))] H' := fun x K => by
    rw [r_law_read_2]
    simp (disch := first | with_reducible rfl | assumption | omega | rfl | (simp only [go_sem]; first | done | omega)) only [go_sem, ↓reduceIte, reduceCtorEq, Nat.reduceEqDiff, Nat.reduceAdd, Nat.reduceSub, Nat.reduceMul, Nat.reduceDiv, Nat.reduceMod, Nat.reduceLeDiff, Nat.reduceLT, Nat.reduceBEq, Int.reduceEq, Int.reduceBEq, Int.reduceBNe, Int.reduceLT, Int.reduceLE, Int.reduceAdd, Int.reduceSub, Int.reduceNeg, Int.reduceToNat, Int.reducePow, Nat.reducePow, Int.reduceMul, Int.reduceDiv, ↓s_law_read_b2]
  refine ⟨H', e2, fun K => ?_⟩
  rw [r_law_read_2, Int.natCast_add, Int.natCast_add]
  simp (disch := first | with_reducible rfl | assumption | omega | rfl | (simp only [go_sem]; first | done | omega)) only [go_sem, ↓reduceIte, reduceCtorEq, Nat.reduceEqDiff, Nat.reduceAdd, Nat.reduceSub, Nat.reduceMul, Nat.reduceDiv, Nat.reduceMod, Nat.reduceLeDiff, Nat.reduceLT, Nat.reduceBEq, Int.reduceEq, Int.reduceBEq, Int.reduceBNe, Int.reduceLT, Int.reduceLE, Int.reduceAdd, Int.reduceSub, Int.reduceNeg, Int.reduceToNat, Int.reducePow, Nat.reducePow, Int.reduceMul, Int.reduceDiv, ↓s_law_read_b2, hlen, hge, i0, c0, x_uint8_int, hw, hge2, a1, st, bl_mk, ix, wr]
  exact end_ _ K

/-- Two strings: a key's end and a value. -/
def twoT (t : List UInt8) : Option (List UInt8 × List UInt8 × List UInt8) := (takeL t).bind fun x => (takeL x.2).bind fun y => some (x.1, y.1, y.2)
theorem rd_two {l : List UInt8} {v0 : Value} {H0 H : AHeap} (hr : BR H0 v0 l) (hl : l.length ≤ 20000) (at_ : Nat) (v4 v6 : Value) (key : List UInt8) (hk : key.length ≤ 1000) {acc : List Pr} (sp : SinceP H0 H v6 acc) (ha : acc.length ≤ 100000) :
    (twoT (l.drop at_) = none → ∃ H', Still H0 H' ∧ ∀ K : K, l_law_read_2 v0 v4 v6 (.int .i64 (at_ : Int)) (.int .i64 (acc.length : Int)) (.string (mk key)) (.int .i64 0) H (blkK [0, 4, 6, 7, 8] 4 K) = K .ret [(2, .slice none 0 0), (3, .bool false)] H') ∧
    (∀ s1 s2 t, twoT (l.drop at_) = some (s1, s2, t) → ∃ v6' H' at2, SinceP H0 H' v6' (acc ++ [⟨mk (key ++ s1), mk s2⟩]) ∧ l.drop at2 = t ∧ at2 ≤ l.length ∧ s1.length < 256 ∧ ∀ K : K, l_law_read_2 v0 v4 v6 (.int .i64 (at_ : Int)) (.int .i64 (acc.length : Int)) (.string (mk key)) (.int .i64 0) H (blkK [0, 4, 6, 7, 8] 4 K) = K .normal [(0, v0), (4, v4), (6, v6'), (7, .int .i64 (at2 : Int)), (8, .int .i64 (acc.length : Int))] H') := by
  unfold twoT
  cases h1 : takeL (l.drop at_) with
  | none =>
    exact ⟨fun _ => ⟨H, sp.still, rd_none (hr.still sp.still) hl h1 v4 v6 _ _ 0 (by decide)⟩, fun s1 s2 t h => (nomatch h)⟩
  | some x =>
    obtain ⟨s1, t1⟩ := x
    obtain ⟨v6', H', sp1, e1⟩ := rd_k0 hr hl h1 v4 v6 (.int .i64 (acc.length : Int)) key hk sp ha
    obtain ⟨_, _, _, _, _, h256, _, _, _, hd⟩ := rd_some (hr.still sp.still) hl h1
    rw [Option.bind_some]
    dsimp only
    rw [← hd]
    cases h2 : takeL (l.drop (at_ + 1 + s1.length)) with
    | none =>
      refine ⟨fun _ => ⟨H', sp1.still, fun K => (e1 K).trans (rd_none (hr.still sp1.still) hl h2 v4 v6' _ _ 1 (by decide) K)⟩, fun s1 s2 t h => (nomatch h)⟩
    | some y =>
      obtain ⟨s2, t2⟩ := y
      obtain ⟨H2, sp2, e2⟩ := rd_k1 hr hl h2 v4 v6' (.string (mk key)) sp1 (i := acc.length) (by simp)
      obtain ⟨_, _, _, _, _, _, hlt2, _, _, hd2⟩ := rd_some (hr.still sp1.still) hl h2
      refine ⟨fun h => (nomatch h), fun a b t h => ?_⟩
      rw [Option.bind_some] at h
      injection h with h
      injection h with ha1 h
      injection h with ha2 ha3
      subst ha1 ha2 ha3
      refine ⟨v6', H2, at_ + 1 + s1.length + 1 + s2.length, ?_, hd2, by omega, h256, fun K => (e1 K).trans (e2 K)⟩
      have : (acc ++ [(⟨mk (key ++ s1), mk []⟩ : Pr)]).set acc.length ⟨((acc ++ [(⟨mk (key ++ s1), mk []⟩ : Pr)])[acc.length]'(by simp)).key, mk s2⟩ = acc ++ [⟨mk (key ++ s1), mk s2⟩] := by
        rw [List.set_append_right _ _ (Nat.le_refl _), List.getElem_append_right (Nat.le_refl _)]
        simp
      rw [this] at sp2
      exact sp2

theorem readL_two (n : Nat) (c : UInt8) (t last : List UInt8) (m : List Pr) : readL (n + 1) (c :: t) last m = (twoT t).bind fun z => readL n z.2.2 (rdPf c last ++ z.1) (m ++ [⟨mk (rdPf c last ++ z.1), mk z.2.1⟩]) := by
  rw [show readL (n + 1) (c :: t) last m = (takeL t).bind fun x => (takeL x.2).bind fun y => readL n y.2 (rdPf c last ++ x.1) (m ++ [⟨mk (rdPf c last ++ x.1), mk y.1⟩]) from rfl]
  unfold twoT
  cases takeL t with
  | none => rfl
  | some x =>
    rw [Option.bind_some, Option.bind_some]
    cases takeL x.2 with
    | none => rfl
    | some y => rfl


theorem lastK_len {l : List Pr} {k : Nat} (h : l.length = k + 1) : lastK l l.length = (l[k]'(by omega)).key := by
  refine (congrArg (lastK l) h).trans ?_
  show (l[k]?).elim (mk []) Pr.key = _
  rw [List.getElem?_eq_getElem (by omega)]
  rfl
theorem l_read1 (l : List UInt8) (v0 : Value) (H0 : AHeap) (hr : BR H0 v0 l) (hl : l.length ≤ 20000) (N : Nat) (hN : N ≤ 20000) : ∀ (n : Nat) (at_ : Nat) (H : AHeap) (v6 : Value) (acc : List Pr), acc.length + n = N → at_ ≤ l.length → SinceP H0 H v6 acc → (bl (lastK acc acc.length)).length ≤ 600 →
    (readL n (l.drop at_) (bl (lastK acc acc.length)) acc = none → ∃ H', Still H0 H' ∧ ∀ K : K, l_law_read_1 v0 (.int .i64 (N : Int)) v6 (.int .i64 (at_ : Int)) (.int .i64 (acc.length : Int)) H (blkK [0, 6] 2 K) = K .ret [(2, .slice none 0 0), (3, .bool false)] H') ∧
    (∀ m, readL n (l.drop at_) (bl (lastK acc acc.length)) acc = some m → ∃ v6' H', SinceP H0 H' v6' m ∧ ∀ K : K, l_law_read_1 v0 (.int .i64 (N : Int)) v6 (.int .i64 (at_ : Int)) (.int .i64 (acc.length : Int)) H (blkK [0, 6] 2 K) = K .normal [(0, v0), (6, v6')] H')
  | 0, at_, H, v6, acc, hn, hat, sp, hla => by
    have hlt : ¬ (acc.length : Int) < (N : Int) := by omega
    refine ⟨fun h => (nomatch h), fun m h => ?_⟩
    cases h
    refine ⟨v6, H, sp, fun K => ?_⟩
    rw [r_law_read_1]
    simp (disch := first | with_reducible rfl | assumption | omega | rfl | (simp only [go_sem]; first | done | omega)) only [go_sem, ↓reduceIte, reduceCtorEq, Nat.reduceEqDiff, Nat.reduceAdd, Nat.reduceSub, Nat.reduceMul, Nat.reduceDiv, Nat.reduceMod, Nat.reduceLeDiff, Nat.reduceLT, Nat.reduceBEq, Int.reduceEq, Int.reduceBEq, Int.reduceBNe, Int.reduceLT, Int.reduceLE, Int.reduceAdd, Int.reduceSub, Int.reduceNeg, Int.reduceToNat, Int.reducePow, Nat.reducePow, Int.reduceMul, Int.reduceDiv, ↓s_law_read_b1, hlt]
  | n + 1, at_, H, v6, acc, hn, hat, sp, hla => by
    have hlt : (acc.length : Int) < (N : Int) := by omega
    have hlen := (hr.still sp.still).1.lenS
    obtain ⟨la, hlaeq⟩ : ∃ la, lastK acc acc.length = la := ⟨_, rfl⟩
    rw [hlaeq] at hla
    rw [hlaeq]
    -- the key before it
    have hkey : 0 < acc.length → ∃ b o, ixS 2 v6 (.int .i64 ((acc.length : Int) - 1)) = some (.pointer (some ⟨b, o, none⟩)) ∧ cellB (H.f b) o = some (.string la) := fun h0 => by
      obtain ⟨k, hk⟩ : ∃ k, acc.length = k + 1 := ⟨acc.length - 1, by omega⟩
      obtain ⟨b, o, e1, e2, _, _⟩ := rd_pair sp.own.rd (i := k) (by omega) (iv := (acc.length : Int) - 1) (by omega)
      refine ⟨b, o, e1, ?_⟩
      rw [e2, ← hlaeq, lastK_len hk]
    have hsub : ∀ ox oy, xbin Try.prog .sub T.int ox oy (.int .i64 (acc.length : Int)) (.int .i64 1) = some (.int .i64 ((acc.length : Int) - 1)) := fun ox oy => sub_i64 (by omega)
    cases hd : l.drop at_ with
    | nil =>
      have hge : l.length ≤ at_ := List.drop_eq_nil_iff.1 hd
      have hlt2 : ¬ (at_ : Int) < (l.length : Int) := by omega
      obtain ⟨f1, _⟩ := rd_two hr hl (at_ + 1) (.int .i64 (N : Int)) v6 [] (by simp) sp (by omega)
      obtain ⟨H', s', f1⟩ := f1 (by rw [List.drop_eq_nil_of_le (by omega)]; rfl)
      rw [Int.natCast_add] at f1
      refine ⟨fun _ => ⟨H', s', fun K => ?_⟩, fun m h => (nomatch h)⟩
      have f1 : ∀ K : Eng.K, l_law_read_2 v0 (.int .i64 (N : Int)) v6 (.int .i64 ((at_ : Int) + 1)) (.int .i64 (acc.length : Int)) (.string (mk [])) (.int .i64 0) H (blkK [0, 4, 6, 7, 8] 4 K) = K .ret [(2, .slice none 0 0), (3, .bool false)] H' := f1
      by_cases h0 : 0 < (acc.length : Int)
      · rw [r_law_read_1]
        simp (disch := first | with_reducible rfl | assumption | omega | rfl | (simp only [go_sem]; first | done | omega)) only [go_sem, ↓reduceIte, reduceCtorEq, Nat.reduceEqDiff, Nat.reduceAdd, Nat.reduceSub, Nat.reduceMul, Nat.reduceDiv, Nat.reduceMod, Nat.reduceLeDiff, Nat.reduceLT, Nat.reduceBEq, Int.reduceEq, Int.reduceBEq, Int.reduceBNe, Int.reduceLT, Int.reduceLE, Int.reduceAdd, Int.reduceSub, Int.reduceNeg, Int.reduceToNat, Int.reducePow, Nat.reducePow, Int.reduceMul, Int.reduceDiv, ↓s_law_read_b1, hlt, h0, hlen, hlt2, f1]
      · rw [r_law_read_1]
        simp (disch := first | with_reducible rfl | assumption | omega | rfl | (simp only [go_sem]; first | done | omega)) only [go_sem, ↓reduceIte, reduceCtorEq, Nat.reduceEqDiff, Nat.reduceAdd, Nat.reduceSub, Nat.reduceMul, Nat.reduceDiv, Nat.reduceMod, Nat.reduceLeDiff, Nat.reduceLT, Nat.reduceBEq, Int.reduceEq, Int.reduceBEq, Int.reduceBNe, Int.reduceLT, Int.reduceLE, Int.reduceAdd, Int.reduceSub, Int.reduceNeg, Int.reduceToNat, Int.reducePow, Nat.reducePow, Int.reduceMul, Int.reduceDiv, ↓s_law_read_b1, hlt, h0, f1]
    | cons c t =>
      obtain ⟨hi, hxa, hx'⟩ := drop_cons hd
      have hlt2 : (at_ : Int) < (l.length : Int) := by omega
      obtain ⟨b0, o0, i0, c0, _, _⟩ := (hr.still sp.still).1.byte hi
      rw [hxa] at c0
      have uc := Eng.u8_lt c
      have hw : IntKind.wrap .i64 (c.toNat : Int) = (c.toNat : Int) := wrap_i64 ⟨by omega, by omega⟩
      rw [readL_two]
      have hpf : (rdPf c (bl la)).length ≤ 300 := by unfold rdPf; split <;> simp; omega
      obtain ⟨pf, hpfe⟩ : ∃ pf, rdPf c (bl la) = pf := ⟨_, rfl⟩
      obtain ⟨f1, f2⟩ := rd_two hr hl (at_ + 1) (.int .i64 (N : Int)) v6 pf (by rw [← hpfe]; omega) sp (by omega)
      rw [hx'] at f1 f2
      rw [hpfe]
      rw [hpfe] at hpf
      have three : (¬ 0 < (acc.length : Int) ∧ pf = []) ∨ (0 < (acc.length : Int) ∧ (c.toNat : Int) ≤ ((bl la).length : Int) ∧ pf = (bl la).take c.toNat) ∨ (0 < (acc.length : Int) ∧ ¬ (c.toNat : Int) ≤ ((bl la).length : Int) ∧ pf = []) := by
        by_cases h0 : 0 < (acc.length : Int)
        · right
          by_cases hc : c.toNat ≤ (bl la).length
          · exact .inl ⟨h0, by omega, by rw [← hpfe]; unfold rdPf; rw [if_pos hc]⟩
          · exact .inr ⟨h0, by omega, by rw [← hpfe]; unfold rdPf; rw [if_neg hc]⟩
        · left
          refine ⟨h0, ?_⟩
          have h1 : acc.length = 0 := by omega
          have h2 : la = mk [] := by rw [← hlaeq, h1]; rfl
          rw [← hpfe, h2, bl_mk]
          unfold rdPf
          split <;> simp
      have intoR : ∀ (H2 : AHeap), (∀ K : K, l_law_read_2 v0 (.int .i64 (N : Int)) v6 (.int .i64 ((at_ + 1 : Nat) : Int)) (.int .i64 (acc.length : Int)) (.string (mk pf)) (.int .i64 0) H (blkK [0, 4, 6, 7, 8] 4 K) = K .ret [(2, .slice none 0 0), (3, .bool false)] H2) →
          ∀ K : K, l_law_read_1 v0 (.int .i64 (N : Int)) v6 (.int .i64 (at_ : Int)) (.int .i64 (acc.length : Int)) H (blkK [0, 6] 2 K) = K .ret [(2, .slice none 0 0), (3, .bool false)] H2 := fun H2 f K => by
        rw [Int.natCast_add] at f
        have f : ∀ K : Eng.K, l_law_read_2 v0 (.int .i64 (N : Int)) v6 (.int .i64 ((at_ : Int) + 1)) (.int .i64 (acc.length : Int)) (.string (mk pf)) (.int .i64 0) H (blkK [0, 4, 6, 7, 8] 4 K) = K .ret [(2, .slice none 0 0), (3, .bool false)] H2 := f
        rcases three with ⟨h0, e⟩ | ⟨h0, hcle, e⟩ | ⟨h0, hcle, e⟩
        · rw [e] at f
          rw [r_law_read_1]
          simp (disch := first | with_reducible rfl | assumption | omega | rfl | (simp only [go_sem]; first | done | omega)) only [go_sem, ↓reduceIte, reduceCtorEq, Nat.reduceEqDiff, Nat.reduceAdd, Nat.reduceSub, Nat.reduceMul, Nat.reduceDiv, Nat.reduceMod, Nat.reduceLeDiff, Nat.reduceLT, Nat.reduceBEq, Int.reduceEq, Int.reduceBEq, Int.reduceBNe, Int.reduceLT, Int.reduceLE, Int.reduceAdd, Int.reduceSub, Int.reduceNeg, Int.reduceToNat, Int.reducePow, Nat.reducePow, Int.reduceMul, Int.reduceDiv, ↓s_law_read_b1, hlt, h0, f]
        · rw [e] at f
          obtain ⟨bk, ok_, ix, cl⟩ := hkey (by omega)
          have sl1 := slT_hi (s := la) (q := .u8) (j := c.toNat) (by omega)
          rw [r_law_read_1]
          simp (disch := first | with_reducible rfl | assumption | omega | rfl | (simp only [go_sem]; first | done | omega)) only [go_sem, ↓reduceIte, reduceCtorEq, Nat.reduceEqDiff, Nat.reduceAdd, Nat.reduceSub, Nat.reduceMul, Nat.reduceDiv, Nat.reduceMod, Nat.reduceLeDiff, Nat.reduceLT, Nat.reduceBEq, Int.reduceEq, Int.reduceBEq, Int.reduceBNe, Int.reduceLT, Int.reduceLE, Int.reduceAdd, Int.reduceSub, Int.reduceNeg, Int.reduceToNat, Int.reducePow, Nat.reducePow, Int.reduceMul, Int.reduceDiv, ↓s_law_read_b1, hlt, h0, hlen, hlt2, i0, c0, x_uint8_int, hw, hsub, ix, cl, hcle, sl1, f]
        · rw [e] at f
          obtain ⟨bk, ok_, ix, cl⟩ := hkey (by omega)
          rw [r_law_read_1]
          simp (disch := first | with_reducible rfl | assumption | omega | rfl | (simp only [go_sem]; first | done | omega)) only [go_sem, ↓reduceIte, reduceCtorEq, Nat.reduceEqDiff, Nat.reduceAdd, Nat.reduceSub, Nat.reduceMul, Nat.reduceDiv, Nat.reduceMod, Nat.reduceLeDiff, Nat.reduceLT, Nat.reduceBEq, Int.reduceEq, Int.reduceBEq, Int.reduceBNe, Int.reduceLT, Int.reduceLE, Int.reduceAdd, Int.reduceSub, Int.reduceNeg, Int.reduceToNat, Int.reducePow, Nat.reducePow, Int.reduceMul, Int.reduceDiv, ↓s_law_read_b1, hlt, h0, hlen, hlt2, i0, c0, x_uint8_int, hw, hsub, ix, cl, hcle, f]
      have intoN : ∀ (H2 : AHeap) (v6' : Value) (at2 : Nat), (∀ K : K, l_law_read_2 v0 (.int .i64 (N : Int)) v6 (.int .i64 ((at_ + 1 : Nat) : Int)) (.int .i64 (acc.length : Int)) (.string (mk pf)) (.int .i64 0) H (blkK [0, 4, 6, 7, 8] 4 K) = K .normal [(0, v0), (4, .int .i64 (N : Int)), (6, v6'), (7, .int .i64 (at2 : Int)), (8, .int .i64 (acc.length : Int))] H2) →
          ∀ K : K, l_law_read_1 v0 (.int .i64 (N : Int)) v6 (.int .i64 (at_ : Int)) (.int .i64 (acc.length : Int)) H (blkK [0, 6] 2 K) = l_law_read_1 v0 (.int .i64 (N : Int)) v6' (.int .i64 (at2 : Int)) (.int .i64 ((acc.length : Int) + 1)) H2 (blkK [0, 6] 2 K) := fun H2 v6' at2 f K => by
        rw [Int.natCast_add] at f
        have f : ∀ K : Eng.K, l_law_read_2 v0 (.int .i64 (N : Int)) v6 (.int .i64 ((at_ : Int) + 1)) (.int .i64 (acc.length : Int)) (.string (mk pf)) (.int .i64 0) H (blkK [0, 4, 6, 7, 8] 4 K) = K .normal [(0, v0), (4, .int .i64 (N : Int)), (6, v6'), (7, .int .i64 (at2 : Int)), (8, .int .i64 (acc.length : Int))] H2 := f
        rcases three with ⟨h0, e⟩ | ⟨h0, hcle, e⟩ | ⟨h0, hcle, e⟩
        · rw [e] at f
          rw [r_law_read_1]
          simp (disch := first | with_reducible rfl | assumption | omega | rfl | (simp only [go_sem]; first | done | omega)) only [go_sem, ↓reduceIte, reduceCtorEq, Nat.reduceEqDiff, Nat.reduceAdd, Nat.reduceSub, Nat.reduceMul, Nat.reduceDiv, Nat.reduceMod, Nat.reduceLeDiff, Nat.reduceLT, Nat.reduceBEq, Int.reduceEq, Int.reduceBEq, Int.reduceBNe, Int.reduceLT, Int.reduceLE, Int.reduceAdd, Int.reduceSub, Int.reduceNeg, Int.reduceToNat, Int.reducePow, Nat.reducePow, Int.reduceMul, Int.reduceDiv, ↓s_law_read_b1, hlt, h0, f]
        · rw [e] at f
          obtain ⟨bk, ok_, ix, cl⟩ := hkey (by omega)
          have sl1 := slT_hi (s := la) (q := .u8) (j := c.toNat) (by omega)
          rw [r_law_read_1]
          simp (disch := first | with_reducible rfl | assumption | omega | rfl | (simp only [go_sem]; first | done | omega)) only [go_sem, ↓reduceIte, reduceCtorEq, Nat.reduceEqDiff, Nat.reduceAdd, Nat.reduceSub, Nat.reduceMul, Nat.reduceDiv, Nat.reduceMod, Nat.reduceLeDiff, Nat.reduceLT, Nat.reduceBEq, Int.reduceEq, Int.reduceBEq, Int.reduceBNe, Int.reduceLT, Int.reduceLE, Int.reduceAdd, Int.reduceSub, Int.reduceNeg, Int.reduceToNat, Int.reducePow, Nat.reducePow, Int.reduceMul, Int.reduceDiv, ↓s_law_read_b1, hlt, h0, hlen, hlt2, i0, c0, x_uint8_int, hw, hsub, ix, cl, hcle, sl1, f]
        · rw [e] at f
          obtain ⟨bk, ok_, ix, cl⟩ := hkey (by omega)
          rw [r_law_read_1]
          simp (disch := first | with_reducible rfl | assumption | omega | rfl | (simp only [go_sem]; first | done | omega)) only [go_sem, ↓reduceIte, reduceCtorEq, Nat.reduceEqDiff, Nat.reduceAdd, Nat.reduceSub, Nat.reduceMul, Nat.reduceDiv, Nat.reduceMod, Nat.reduceLeDiff, Nat.reduceLT, Nat.reduceBEq, Int.reduceEq, Int.reduceBEq, Int.reduceBNe, Int.reduceLT, Int.reduceLE, Int.reduceAdd, Int.reduceSub, Int.reduceNeg, Int.reduceToNat, Int.reducePow, Nat.reducePow, Int.reduceMul, Int.reduceDiv, ↓s_law_read_b1, hlt, h0, hlen, hlt2, i0, c0, x_uint8_int, hw, hsub, ix, cl, hcle, f]
      cases htw : twoT t with
      | none =>
        obtain ⟨H2, s2, f1⟩ := f1 htw
        exact ⟨fun _ => ⟨H2, s2, intoR H2 f1⟩, fun m h => (nomatch h)⟩
      | some z =>
        obtain ⟨s1, s2, t2⟩ := z
        obtain ⟨v6', H2, at2, sp2, hd2, hle2, h256, f2⟩ := f2 s1 s2 t2 htw
        have st := intoN H2 v6' at2 f2
        rw [Option.bind_some]
        dsimp only
        obtain ⟨acc2, hacc2⟩ : ∃ acc2, acc ++ [⟨mk (pf ++ s1), mk s2⟩] = acc2 := ⟨_, rfl⟩
        rw [hacc2] at sp2
        rw [hacc2]
        have hl2 : acc2.length = acc.length + 1 := by rw [← hacc2]; simp
        have hlk : lastK acc2 acc2.length = mk (pf ++ s1) := by
          rw [hl2]
          show (acc2[acc.length]?).elim (mk []) Pr.key = _
          rw [← hacc2, List.getElem?_append_right (Nat.le_refl _)]
          simp
        obtain ⟨g1, g2⟩ := l_read1 l v0 H0 hr hl N hN n at2 H2 v6' acc2 (by omega) hle2 sp2 (by rw [hlk, bl_mk]; simp; omega)
        rw [hlk, bl_mk, hd2, hl2, Int.natCast_add] at g1 g2
        refine ⟨fun h => ?_, fun m h => ?_⟩
        · obtain ⟨H3, s3, e3⟩ := g1 h
          exact ⟨H3, s3, fun K => (st K).trans (e3 K)⟩
        · obtain ⟨v7, H3, s3, e3⟩ := g2 m h
          exact ⟨v7, H3, s3, fun K => (st K).trans (e3 K)⟩

/-! ### read -/
theorem l_read0 (l : List UInt8) (v0 : Value) (H : AHeap) (hr : BR H v0 l) (hl : 7 ≤ l.length) : ∀ (d i : Nat) (n : Int), i + d = 7 → 3 ≤ i → 0 ≤ n → n < 256 ^ (i - 3) → ∀ K : K,
    l_law_read_0 v0 (.int .i64 n) (.int .i64 (i : Int)) H (blkK [0, 4] 0 K) = K .normal [(0, v0), (4, .int .i64 (((l.drop i).take d).foldl numS n))] H
  | 0, i, n, hd, h3, h0, h1, K => by
    have hlt : ¬ (i : Int) < 7 := by omega
    rw [r_law_read_0]
    simp (disch := first | with_reducible rfl | assumption | omega | rfl | (simp only [go_sem]; first | done | omega)) only [go_sem, ↓reduceIte, reduceCtorEq, Nat.reduceEqDiff, Nat.reduceAdd, Nat.reduceSub, Nat.reduceMul, Nat.reduceDiv, Nat.reduceMod, Nat.reduceLeDiff, Nat.reduceLT, Nat.reduceBEq, Int.reduceEq, Int.reduceBEq, Int.reduceBNe, Int.reduceLT, Int.reduceLE, Int.reduceAdd, Int.reduceSub, Int.reduceNeg, Int.reduceToNat, Int.reducePow, Nat.reducePow, Int.reduceMul, Int.reduceDiv, ↓s_law_read_b0, hlt]
  | d + 1, i, n, hd, h3, h0, h1, K => by
    have hlt : (i : Int) < 7 := by omega
    obtain ⟨b0, o0, i0, c0, _, _⟩ := hr.1.byte (i := i) (by omega)
    obtain ⟨c, hc⟩ : ∃ c, l[i] = c := ⟨_, rfl⟩
    rw [hc] at c0
    have uc := Eng.u8_lt c
    have hw : IntKind.wrap .i64 (c.toNat : Int) = (c.toNat : Int) := wrap_i64 ⟨by omega, by omega⟩
    have hp := pow256 (i := i - 3) (by omega)
    have hn := numS_lt (c := c) ⟨h0, h1⟩
    have ih := l_read0 l v0 H hr hl d (i + 1) (numS n c) (by omega) (by omega) hn.1 (by rw [show i + 1 - 3 = (i - 3) + 1 by omega, Int.pow_succ]; exact hn.2) K
    have e1 : ∀ ox oy, xbin Try.prog .mul T.int ox oy (.int .i64 256) (.int .i64 n) = some (.int .i64 (n * 256)) := fun ox oy => by
      rw [xbin_mul, wrap_i64 (by omega), Int.mul_comm]
    have e2 : ∀ ox oy, xbin Try.prog .add T.int ox oy (.int .i64 (n * 256)) (.int .i64 (c.toNat : Int)) = some (.int .i64 (numS n c)) := fun ox oy => add_i64 (by omega)
    have e3 : ((l.drop i).take (d + 1)).foldl numS n = ((l.drop (i + 1)).take d).foldl numS (numS n c) := by
      rw [List.drop_eq_getElem_cons (show i < l.length by omega), List.take_succ_cons, List.foldl_cons, hc]
    rw [e3]
    rw [r_law_read_0]
    simp (disch := first | with_reducible rfl | assumption | omega | rfl | (simp only [go_sem]; first | done | omega)) only [go_sem, ↓reduceIte, reduceCtorEq, Nat.reduceEqDiff, Nat.reduceAdd, Nat.reduceSub, Nat.reduceMul, Nat.reduceDiv, Nat.reduceMod, Nat.reduceLeDiff, Nat.reduceLT, Nat.reduceBEq, Int.reduceEq, Int.reduceBEq, Int.reduceBNe, Int.reduceLT, Int.reduceLE, Int.reduceAdd, Int.reduceSub, Int.reduceNeg, Int.reduceToNat, Int.reducePow, Nat.reducePow, Int.reduceMul, Int.reduceDiv, ↓s_law_read_b0, hlt, e1, i0, c0, x_uint8_int, hw, e2]
    exact ih

theorem keep_ps {H H' : AHeap} {out : Value} {o : List Pr} {t : Bool} {H0 : AHeap} (hs : Still H H') (so : SinceP H0 H' out o) :
    ∃ H2, tidy H (.tuple #[out, .bool t], H') = (.tuple #[out, .bool t], H2) ∧ Rd EPr H2 out o ∧ Still H H2 := by
  obtain ⟨H2, h2, h3⟩ := tidy_fr (v := .tuple #[out, .bool t]) hs
  refine ⟨H2, h2, ?_, h3⟩
  unfold tidy at h2
  split at h2
  · rename_i hg
    cases h2
    have : out = .slice none 0 0 := by
      rcases so.own with ⟨_, h⟩ | ⟨_, a, rfl, _⟩ | ⟨b, o', c, xs, rfl, _⟩
      · exact h
      · simp [gr] at hg
      · simp [gr] at hg
    subst this
    rcases so.own with ⟨h, _⟩ | ⟨_, a, h, _⟩ | ⟨b, o', c, xs, h, _⟩
    · rw [h]; exact .inl ⟨rfl, rfl⟩
    · cases h
    · cases h
  · cases h2
    exact so.own.rd

theorem q_read (l : List UInt8) (v : Value) (H : AHeap) (ok : MOk H) (hr : BR H v l) (hl : l.length ≤ 20000) :
    (readOf l = none → CC F.law_read [v] H = some (.tuple #[.slice none 0 0, .bool false], H)) ∧
    (∀ m, readOf l = some m → ∃ v' H', CC F.law_read [v] H = some (.tuple #[v', .bool true], H') ∧ Rd EPr H' v' m ∧ Still H H') := by
  have hlen := hr.1.lenS
  unfold readOf
  by_cases h7 : l.length < 7
  · have h7' : (l.length : Int) < 7 := by omega
    rw [if_pos h7]
    refine ⟨fun _ => ?_, fun m h => (nomatch h)⟩
    apply pure_of _ (d_law_read _ H) rfl
    rotate_left 2
    · simp (disch := first | with_reducible rfl | assumption | omega | rfl | (simp only [go_sem]; first | done | omega)) only [go_sem, ↓reduceIte, reduceCtorEq, Nat.reduceEqDiff, Nat.reduceAdd, Nat.reduceSub, Nat.reduceMul, Nat.reduceDiv, Nat.reduceMod, Nat.reduceLeDiff, Nat.reduceLT, Nat.reduceBEq, Int.reduceEq, Int.reduceBEq, Int.reduceBNe, Int.reduceLT, Int.reduceLE, Int.reduceAdd, Int.reduceSub, Int.reduceNeg, Int.reduceToNat, Int.reducePow, Nat.reducePow, Int.reduceMul, Int.reduceDiv, ↓s_law_read, hlen, h7']
      rfl
    · (repeat (first | exact Fr.refl _ | refine Fr.push ?_ _ | refine Fr.set ?_ _ _ (by intro h; first | omega | (simp only [go_sem] at h; omega))))
  rw [if_neg h7]
  have h7' : ¬ (l.length : Int) < 7 := by omega
  have z0 : ∀ K : K, l_law_read_0 v (.int .i64 0) (.int .i64 3) H (blkK [0, 4] 0 K) = K .normal [(0, v), (4, .int .i64 (numB ((l.drop 3).take 4)))] H := l_read0 l v H hr (by omega) 4 3 0 rfl (by decide) (by decide) (by decide)
  have hnb := numB_lt ((l.drop 3).take 4)
  obtain ⟨N, hN⟩ : ∃ N : Nat, (numB ((l.drop 3).take 4)).toNat = N := ⟨_, rfl⟩
  have hNi : numB ((l.drop 3).take 4) = (N : Int) := by omega
  rw [hNi] at z0
  rw [hN]
  by_cases hbig : l.length < N
  · have hb' : (l.length : Int) < (N : Int) := by omega
    rw [if_pos hbig]
    refine ⟨fun _ => ?_, fun m h => (nomatch h)⟩
    apply pure_of _ (d_law_read _ H) rfl
    rotate_left 2
    · simp (disch := first | with_reducible rfl | assumption | omega | rfl | (simp only [go_sem]; first | done | omega)) only [go_sem, ↓reduceIte, reduceCtorEq, Nat.reduceEqDiff, Nat.reduceAdd, Nat.reduceSub, Nat.reduceMul, Nat.reduceDiv, Nat.reduceMod, Nat.reduceLeDiff, Nat.reduceLT, Nat.reduceBEq, Int.reduceEq, Int.reduceBEq, Int.reduceBNe, Int.reduceLT, Int.reduceLE, Int.reduceAdd, Int.reduceSub, Int.reduceNeg, Int.reduceToNat, Int.reducePow, Nat.reducePow, Int.reduceMul, Int.reduceDiv, ↓s_law_read, hlen, h7', z0, hb']
      rfl
    · (repeat (first | exact Fr.refl _ | refine Fr.push ?_ _ | refine Fr.set ?_ _ _ (by intro h; first | omega | (simp only [go_sem] at h; omega))))
  have hb' : ¬ (l.length : Int) < (N : Int) := by omega
  rw [if_neg hbig]
  have sp0 : SinceP H H (.slice none 0 0) [] := ⟨Fr.refl H, .inl ⟨rfl, rfl⟩, fun b h => by cases h⟩
  obtain ⟨z1, z2⟩ := l_read1 l v H hr hl N (by omega) N 7 H (.slice none 0 0) [] (by simp) (by omega) sp0 (by show (bl (mk [])).length ≤ 600; rw [bl_mk]; simp)
  have hk0 : bl (lastK [] ([] : List Pr).length) = [] := by show bl (mk []) = []; rw [bl_mk]
  rw [hk0] at z1 z2
  cases hd : readL N (l.drop 7) [] [] with
  | none =>
    obtain ⟨H2, s2, z1⟩ := z1 hd
    have z1 : ∀ K : K, l_law_read_1 v (.int .i64 (N : Int)) (.slice none 0 0) (.int .i64 7) (.int .i64 0) H (blkK [0, 6] 2 K) = K .ret [(2, .slice none 0 0), (3, .bool false)] H2 := z1
    refine ⟨fun _ => ?_, fun m h => (nomatch h)⟩
    apply pure_of _ (d_law_read _ H) rfl
    rotate_left 2
    · simp (disch := first | with_reducible rfl | assumption | omega | rfl | (simp only [go_sem]; first | done | omega)) only [go_sem, ↓reduceIte, reduceCtorEq, Nat.reduceEqDiff, Nat.reduceAdd, Nat.reduceSub, Nat.reduceMul, Nat.reduceDiv, Nat.reduceMod, Nat.reduceLeDiff, Nat.reduceLT, Nat.reduceBEq, Int.reduceEq, Int.reduceBEq, Int.reduceBNe, Int.reduceLT, Int.reduceLE, Int.reduceAdd, Int.reduceSub, Int.reduceNeg, Int.reduceToNat, Int.reducePow, Nat.reducePow, Int.reduceMul, Int.reduceDiv, ↓s_law_read, hlen, h7', z0, hb', z1]
      rfl
    · exact s2
  | some m =>
    obtain ⟨v6, H2, sp2, z2⟩ := z2 m hd
    have z2 : ∀ K : K, l_law_read_1 v (.int .i64 (N : Int)) (.slice none 0 0) (.int .i64 7) (.int .i64 0) H (blkK [0, 6] 2 K) = K .normal [(0, v), (6, v6)] H2 := z2
    have hml : m.length ≤ 20000 := by have := readL_len _ _ _ _ _ hd; simp at this; omega
    rw [Option.bind_some]
    by_cases he : ofErr none m = 0
    · obtain ⟨bo, H3, m3, md3, s3, _, _⟩ := q_Of m v6 H2 sp2.own.rd he hml
      have hv := (ofErr_ok he).1
      obtain ⟨v4, H4, m4, so4⟩ := q_bytesOf m v6 H3 (sp2.own.rd.still s3) hml hv.sz
      have st1 := BR.str so4.own.sl
      have s24 : Still H2 H4 := s3.trans so4.still
      have s4 : Still H H4 := sp2.still.trans s24
      have st2 := BR.str (hr.still s4)
      have ck : ∀ go r, okV go r H3 H4 H4 H4 = true := fun go r => by
        cases r with
        | none => exact okV_none (.inl so4.still.n)
        | some k =>
          by_cases hk : k < H3.n
          · exact okV_some (.inr (so4.still.ver hk fun h => h)) (.inl so4.still.n)
          · exact okV_some (.inl (by omega)) (.inl so4.still.n)
      by_cases hb : encB m = l
      · rw [if_pos ⟨he, hb⟩]
        have hb2 : (encB m = l) = True := by simp [hb]
        refine ⟨fun h => (nomatch h), fun m' h => ?_⟩
        injection h with h
        subst h
        have sp4 : SinceP H H4 v6 m := ⟨sp2.still.trans s24, sp2.own.still s24, sp2.new⟩
        have key : s_law_read guardK condL shareL Try.prog CC l_law_read_0 l_law_read_1 l_law_read_2 v H (endK Try.prog [.tmp 2, .tmp 3]) = some (.tuple #[v6, .bool true], H4) := by
          simp (disch := first | with_reducible rfl | assumption | omega | rfl | (simp only [go_sem]; first | done | omega)) only [go_sem, ↓reduceIte, reduceCtorEq, Nat.reduceEqDiff, Nat.reduceAdd, Nat.reduceSub, Nat.reduceMul, Nat.reduceDiv, Nat.reduceMod, Nat.reduceLeDiff, Nat.reduceLT, Nat.reduceBEq, Int.reduceEq, Int.reduceBEq, Int.reduceBNe, Int.reduceLT, Int.reduceLE, Int.reduceAdd, Int.reduceSub, Int.reduceNeg, Int.reduceToNat, Int.reducePow, Nat.reducePow, Int.reduceMul, Int.reduceDiv, ↓s_law_read, hlen, h7', z0, hb', z2, enterK_eq m3, enterK_eq m4, st1, st2, bl_mk, hb2, ck]
        obtain ⟨H5, h5, h6, h7⟩ := keep_ps (t := true) s4 sp4
        exact ⟨v6, H5, (d_law_read _ H key).trans (by rw [h5]), h6, h7⟩
      · rw [if_neg (fun h => hb h.2)]
        refine ⟨fun _ => ?_, fun m' h => (nomatch h)⟩
        apply pure_of _ (d_law_read _ H) rfl
        rotate_left 2
        · simp (disch := first | with_reducible rfl | assumption | omega | rfl | (simp only [go_sem]; first | done | omega)) only [go_sem, ↓reduceIte, reduceCtorEq, Nat.reduceEqDiff, Nat.reduceAdd, Nat.reduceSub, Nat.reduceMul, Nat.reduceDiv, Nat.reduceMod, Nat.reduceLeDiff, Nat.reduceLT, Nat.reduceBEq, Int.reduceEq, Int.reduceBEq, Int.reduceBNe, Int.reduceLT, Int.reduceLE, Int.reduceAdd, Int.reduceSub, Int.reduceNeg, Int.reduceToNat, Int.reducePow, Nat.reducePow, Int.reduceMul, Int.reduceDiv, ↓s_law_read, hlen, h7', z0, hb', z2, enterK_eq m3, enterK_eq m4, st1, st2, bl_mk, hb, ck]
          rfl
        · exact s4
    · rw [if_neg (fun h => he h.1)]
      have m3 := q_Of_err m v6 H2 sp2.own.rd (by omega) he
      obtain ⟨e, hee⟩ : ∃ e, ofErr none m = e := ⟨_, rfl⟩
      rw [hee] at m3 he
      refine ⟨fun _ => ?_, fun m' h => (nomatch h)⟩
      apply pure_of _ (d_law_read _ H) rfl
      rotate_left 2
      · simp (disch := first | with_reducible rfl | assumption | omega | rfl | (simp only [go_sem]; first | done | omega)) only [go_sem, ↓reduceIte, reduceCtorEq, Nat.reduceEqDiff, Nat.reduceAdd, Nat.reduceSub, Nat.reduceMul, Nat.reduceDiv, Nat.reduceMod, Nat.reduceLeDiff, Nat.reduceLT, Nat.reduceBEq, Int.reduceEq, Int.reduceBEq, Int.reduceBNe, Int.reduceLT, Int.reduceLE, Int.reduceAdd, Int.reduceSub, Int.reduceNeg, Int.reduceToNat, Int.reducePow, Nat.reducePow, Int.reduceMul, Int.reduceDiv, ↓s_law_read, hlen, h7', z0, hb', z2, enterK_eq m3, he]
        rfl
      · exact sp2.still

/-! ### right -/
theorem q_right (l : List UInt8) (v : Value) (H : AHeap) (ok : MOk H) (hr : BR H v l) (hl : l.length ≤ 20000) : CC F.law_right [v] H = some (.bool true, H) := by
  obtain ⟨v1, H1, m1, so1⟩ := copyN hr (by omega)
  have hr1 := hr.still so1.still
  have ok1 := ok.fr so1.still
  have st1 := BR.str so1.own.sl
  have st2 := BR.str hr1
  obtain ⟨z1, z2⟩ := q_read l v H1 ok1 hr1 hl
  cases hd : readOf l with
  | none =>
    have z1 := z1 hd
    have dn := q_decodes_none l v1 H1 ok1 so1.own.sl (by omega) (by rw [← read_dec hl]; exact hd)
    apply pure_of _ (d_law_right _ H) rfl
    rotate_left 2
    · simp (disch := first | with_reducible rfl | assumption | omega | rfl | (simp only [go_sem]; first | done | omega)) only [go_sem, ↓reduceIte, reduceCtorEq, Nat.reduceEqDiff, Nat.reduceAdd, Nat.reduceSub, Nat.reduceMul, Nat.reduceDiv, Nat.reduceMod, Nat.reduceLeDiff, Nat.reduceLT, Nat.reduceBEq, Int.reduceEq, Int.reduceBEq, Int.reduceBNe, Int.reduceLT, Int.reduceLE, Int.reduceAdd, Int.reduceSub, Int.reduceNeg, Int.reduceToNat, Int.reducePow, Nat.reducePow, Int.reduceMul, Int.reduceDiv, ↓s_law_right, m1, enterK_eq z1, enterK_eq dn, st1, st2, bl_mk]
      rfl
    · exact so1.still
  | some m =>
    obtain ⟨v2, H2, z2, r2, s2⟩ := z2 m hd
    have hdm : decOf l = some m := by rw [← read_dec hl]; exact hd
    have hw := (decOf_iff.1 hdm).1
    obtain ⟨bm, H3, m3, fr3⟩ := q_filled m v2 H2 (ok1.fr s2) r2 hw.2.2
    rw [fillP_wf hw] at fr3
    have s3 := s2.trans fr3.still
    have ds := q_decodes l v1 bm m H3 fr3.ok (so1.own.sl.still s3) (by omega) hdm fr3.mdl hw.2.2
    have st1 := BR.str (so1.own.sl.still s3)
    have st2 := BR.str (hr1.still s3)
    apply pure_of _ (d_law_right _ H) rfl
    rotate_left 2
    · simp (disch := first | with_reducible rfl | assumption | omega | rfl | (simp only [go_sem]; first | done | omega)) only [go_sem, ↓reduceIte, reduceCtorEq, Nat.reduceEqDiff, Nat.reduceAdd, Nat.reduceSub, Nat.reduceMul, Nat.reduceDiv, Nat.reduceMod, Nat.reduceLeDiff, Nat.reduceLT, Nat.reduceBEq, Int.reduceEq, Int.reduceBEq, Int.reduceBNe, Int.reduceLT, Int.reduceLE, Int.reduceAdd, Int.reduceSub, Int.reduceNeg, Int.reduceToNat, Int.reducePow, Nat.reducePow, Int.reduceMul, Int.reduceDiv, ↓s_law_right, m1, enterK_eq z2, enterK_eq m3, enterK_eq ds, st1, st2, bl_mk]
      rfl
    · exact so1.still.trans s3

end Go.Proofs.Ytehnchfnhbmkdaa

/-
  The seat's functions as terms over the engine's combinators (a program of ours printed it).
  Conditions: none. By an AI agent.
-/
set_option linter.unusedVariables false
namespace Go.Proofs.Ytehnchfnhbmkdaa
open Go Eng

/-! ticketline.ticketlinelaw48.BackupDecodes -/

noncomputable def s_law_BackupDecodes (mg : GT) (mc : CT) (ms : ST) (P : Program) (C : CallF) (a0 : Value) (a1 : Value) (a2 : Value) (a3 : Value) (a4 : Value) (H : AHeap) (K0 : K) : Res :=
bareK (lenS a0) H fun t18 h1 =>
bareK (xbin P .gtr T.int (.tmp 18) (.const (.int .i64 200)) t18 (.int .i64 200)) h1 fun t19 h2 =>
mg t19 false (fun o1 => o1 a1 h2) h2 fun t21 h3 =>
mg t19 false (fun o2 => enterK C F.law_small [t21] h3 o2) h3 fun t22 h4 =>
mg t19 false (fun o3 => bareK (xun P .not t22) h4 o3) h4 fun t23 h5 =>
pickK t19 (.bool true) t23 fun t24 =>
mg t24 false (fun o4 => o4 a1 h5) h5 fun t26 h6 =>
mg t24 false (fun o5 => bareK (lenS t26) h6 o5) h6 fun t27 h7 =>
mg t24 false (fun o6 => bareK (xbin P .gtr T.int (.tmp 27) (.const (.int .i64 12)) t27 (.int .i64 12)) h7 o6) h7 fun t28 h8 =>
pickK t24 (.bool true) t28 fun t29 =>
mg t29 false (fun o7 => o7 a4 h8) h8 fun t31 h9 =>
mg t29 false (fun o8 => bareK (lenS t31) h9 o8) h9 fun t32 h10 =>
mg t29 false (fun o9 => bareK (xbin P .gtr T.int (.tmp 32) (.const (.int .i64 10)) t32 (.int .i64 10)) h10 o9) h10 fun t33 h11 =>
pickK t29 (.bool true) t33 fun t34 =>
mc t34 (fun k10 => enterK C F.law_known [] h11 fun t35 h12 =>
k10 .ret [(10, t35)] h12) (fun k10 =>
k10 .normal [(0, a0), (1, a1), (2, a2), (3, a3), (4, a4)] h11) (seqK (fun tT h13 =>
enterK C F.law_filled [(get tT 1)] h13 fun t37 h14 =>
enterK C F.model_Model_Pairs [t37] h14 fun t38 h15 =>
enterK C F.law_bytesOf [t38] h15 fun t39 h16 =>
bothK (xconv P T.uint16 T.int (get tT 2) h16) fun t41 h17 =>
bareK (lenS t39) h17 fun t43 h18 =>
bareK (xbin P .add T.int (.tmp 43) (.const (.int .i64 1)) t43 (.int .i64 1)) h18 fun t44 h19 =>
bareK (xbin P .rem T.int (.tmp 41) (.tmp 44) t41 t44) h19 fun t45 h20 =>
bareK (lenS t39) h20 fun t47 h21 =>
bothK (xconv P T.uint8 T.int (get tT 3) h21) fun t50 h22 =>
bareK (xbin P .add T.int (.tmp 48) (.tmp 50) t45 t50) h22 fun t51 h23 =>
nextK C h23 (xbuiltin P .min [T.int, T.int] [t47, t51] h23) fun t52 h24 =>
bareK (slS T.uint8 1 t39 none (some t45) none h24) h24 fun t55 h25 =>
bothK (app T.uint8 1 1 (.slice none 0 0) (srcS 1 t55 h25) h25) fun t56 h26 =>
bothK (app T.uint8 1 1 t56 (srcS 1 (get tT 4) h26) h26) fun t58 h27 =>
bareK (slS T.uint8 1 t39 (some t52) none none h27) h27 fun t61 h28 =>
bothK (app T.uint8 1 1 t58 (srcS 1 t61 h28) h28) fun t62 h29 =>
checkK (okV (some true) none h25 h26 h26 h26 && (okV (some true) none h25 h26 h27 h27 && (okV (some true) none h25 h26 h27 h27 && (okV (some true) (blockOf t39) h25 h26 h27 h28 && (okV (some true) none h26 h27 h27 h27 && (okV (some true) none h26 h27 h27 h27 && (okV (some true) (blockOf t39) h26 h27 h27 h28 && true))))))) <|
bareK (lenS t39) h29 fun t65 h30 =>
bareK (xbin P .sub T.int (.tmp 65) (.const (.int .i64 4)) t65 (.int .i64 4)) h30 fun t66 h31 =>
bareK (slS T.uint8 1 t39 none (some t66) none h31) h31 fun t67 h32 =>
bothK (xconv P T.uint16 T.int (get tT 2) h32) fun t69 h33 =>
bareK (lenS t67) h33 fun t71 h34 =>
bareK (xbin P .add T.int (.tmp 71) (.const (.int .i64 1)) t71 (.int .i64 1)) h34 fun t72 h35 =>
bareK (xbin P .rem T.int (.tmp 69) (.tmp 72) t69 t72) h35 fun t73 h36 =>
bareK (lenS t67) h36 fun t75 h37 =>
bothK (xconv P T.uint8 T.int (get tT 3) h37) fun t78 h38 =>
bareK (xbin P .add T.int (.tmp 76) (.tmp 78) t73 t78) h38 fun t79 h39 =>
nextK C h39 (xbuiltin P .min [T.int, T.int] [t75, t79] h39) fun t80 h40 =>
bareK (slS T.uint8 1 t67 none (some t73) none h40) h40 fun t83 h41 =>
bothK (app T.uint8 1 1 (.slice none 0 0) (srcS 1 t83 h41) h41) fun t84 h42 =>
bothK (app T.uint8 1 1 t84 (srcS 1 (get tT 4) h42) h42) fun t86 h43 =>
bareK (slS T.uint8 1 t67 (some t80) none none h43) h43 fun t89 h44 =>
bothK (app T.uint8 1 1 t86 (srcS 1 t89 h44) h44) fun t90 h45 =>
checkK (okV (some true) none h41 h42 h42 h42 && (okV (some true) none h41 h42 h43 h43 && (okV (some true) none h41 h42 h43 h43 && (okV (some true) (blockOf t67) h41 h42 h43 h44 && (okV (some true) none h42 h43 h43 h43 && (okV (some true) none h42 h43 h43 h43 && (okV (some true) (blockOf t67) h42 h43 h43 h44 && true))))))) <|
enterK C F.law_check [t90] h45 fun t93 h46 =>
enterK C F.law_many [t93, (.int .i64 4)] h46 fun t94 h47 =>
bothK (app T.uint8 1 1 t90 (srcS 1 t94 h47) h47) fun t95 h48 =>
enterK C F.law_right [(get tT 0)] h48 fun t97 h49 =>
mg t97 true (fun o11 => o11 t39 h49) h49 fun t99 h50 =>
mg t97 true (fun o12 => enterK C F.law_right [t99] h50 o12) h50 fun t100 h51 =>
pickK t97 t100 (.bool false) fun t101 =>
mg t101 true (fun o13 => o13 t62 h51) h51 fun t103 h52 =>
mg t101 true (fun o14 => enterK C F.law_right [t103] h52 o14) h52 fun t104 h53 =>
pickK t101 t104 (.bool false) fun t105 =>
mg t105 true (fun o15 => o15 t95 h53) h53 fun t107 h54 =>
mg t105 true (fun o16 => enterK C F.law_right [t107] h54 o16) h54 fun t108 h55 =>
pickK t105 t108 (.bool false) fun t109 =>
mg t109 true (fun o17 => enterK C F.law_known [] h55 o17) h55 fun t111 h56 =>
pickK t109 t111 (.bool false) fun t112 =>
K0 .ret [(10, t112)] h56) K0)

theorem s_law_BackupDecodes_eq (M : CombL) (C : CallF) (LP : LoopH) (a0 : Value) (a1 : Value) (a2 : Value) (a3 : Value) (a4 : Value) (H : AHeap) : dBodyL M Try.prog hints C LP F.law_BackupDecodes [a0, a1, a2, a3, a4] H = s_law_BackupDecodes M.b.g M.c M.s Try.prog C a0 a1 a2 a3 a4 H (endK Try.prog [.tmp 10]) := by kernel_rfl

end Go.Proofs.Ytehnchfnhbmkdaa

/-
  The equations of the seat's functions over calls in the limit (a program of ours printed it).
  Conditions: none. By an AI agent.
-/
set_option linter.unusedVariables false
namespace Go.Proofs.Ytehnchfnhbmkdaa
open Go Eng

theorem u_uint16 : Try.prog.underlying T.uint16 = Try.prog.underlying 48 := rfl
@[go_sem] theorem x_uint16_int {n : Int} {H : AHeap} : xconv Try.prog T.uint16 T.int (.int .u16 n) H = some (.int .i64 (IntKind.wrap .i64 n), H) := xconv_int (P := Try.prog) (s := 48) (t := 3) Try.underlying48 Try.underlying3

theorem d_law_BackupDecodes (a0 : Value) (a1 : Value) (a2 : Value) (a3 : Value) (a4 : Value) (H : AHeap) {r : Value × AHeap} (h : s_law_BackupDecodes guardK condL shareL Try.prog CC a0 a1 a2 a3 a4 H (endK Try.prog [.tmp 10]) = some r) : CC F.law_BackupDecodes [a0, a1, a2, a3, a4] H = some (tidy H r) := D_body (by kernel_rfl) ((s_law_BackupDecodes_eq stdL CC limLP a0 a1 a2 a3 a4 H).trans (Eq.trans (show s_law_BackupDecodes stdL.b.g stdL.c stdL.s Try.prog CC a0 a1 a2 a3 a4 H (endK Try.prog [.tmp 10]) = s_law_BackupDecodes guardK condL shareL Try.prog CC a0 a1 a2 a3 a4 H (endK Try.prog [.tmp 10]) by kernel_rfl) h))

end Go.Proofs.Ytehnchfnhbmkdaa

/-
  Chapter 48: BackupDecodes.
  Conditions: none. By an AI agent.
-/
set_option maxRecDepth 10000
set_option linter.unusedSimpArgs false
set_option linter.unusedVariables false
namespace Go.Proofs.Ytehnchfnhbmkdaa
open Go Eng

theorem encB_67 {l : List Pr} (h : Wf l) : (encB l).length ≤ 67 * l.length + 11 := by
  have : ∀ (l : List Pr) (last : ByteArray), VOk l → (bodyB last l).length ≤ 67 * l.length := fun l => by
    induction l with
    | nil => intro _ _; simp [bodyB]
    | cons a t ih =>
      intro last h
      have h1 := ih a.key fun x hx => h x (by simp [hx])
      have h2 := chk_len (h a (by simp))
      have h3 := pairB_len last a
      simp [bodyB]; omega
  have := this l (mk []) h.2.1
  simp [encB, fullB, headB, be_length]; omega

theorem shapeR {H : AHeap} {v : Value} {l : List UInt8} (r : BR H v l) (h : l ≠ []) : ∃ b o c, v = .slice (some ⟨b, o, none⟩) l.length c ∧ b < H.n := by
  rcases r.1 with ⟨e, _⟩ | ⟨e, _⟩ | ⟨b, o, c, e, _, hb, _⟩
  · exact absurd e h
  · exact absurd e h
  · exact ⟨b, o, c, e, hb⟩

/-- Bytes with some of them replaced. -/
theorem splice {H : AHeap} {v v4 : Value} {x more : List UInt8} (rx : BR H v x) (rm : BR H v4 more) (hx : x.length ≤ 10000) (hm : more.length ≤ 10000) {i j : Nat} (hi : i ≤ x.length) (hj : j ≤ x.length) :
    ∃ w1 va Ha vb Hb w2 vc Hc, slS T.uint8 1 v none (some (.int .i64 (i : Int))) none H = some w1 ∧ app T.uint8 1 1 (.slice none 0 0) (srcS 1 w1 H) H = some (va, Ha) ∧ app T.uint8 1 1 va (srcS 1 v4 Ha) Ha = some (vb, Hb) ∧
      slS T.uint8 1 v (some (.int .i64 (j : Int))) none none Hb = some w2 ∧ app T.uint8 1 1 vb (srcS 1 w2 Hb) Hb = some (vc, Hc) ∧ Since H Hc vc (x.take i ++ more ++ x.drop j) ∧
      (okV (some true) none H Ha Ha Ha = true ∧ okV (some true) none H Ha Hb Hb = true ∧ (∀ k, k < H.n → okV (some true) (some k) H Ha Hb Hb = true) ∧ okV (some true) none Ha Hb Hb Hb = true ∧ ∀ k, k < H.n → okV (some true) (some k) Ha Hb Hb Hb = true) := by
  obtain ⟨w1, a1, r1, _⟩ := rx.to (sz := 1) rfl (j := i) (q := .i64) hi
  obtain ⟨va, Ha, a2, sa⟩ := copyN r1 (by simp; omega)
  obtain ⟨vb, Hb, a3, sb, _, fb⟩ := sa.appK more ((rm.still sa.still).1.src (sz := 1) rfl) (by simp; omega)
  obtain ⟨w2, a4, r4, _⟩ := (rx.still sb.still).from (sz := 1) rfl (i := j) (q := .i64) hj
  obtain ⟨vc, Hc, a5, sc, _, _⟩ := sb.appK (x.drop j) (r4.1.src (sz := 1) rfl) (by simp; omega)
  refine ⟨w1, va, Ha, vb, Hb, w2, vc, Hc, a1, a2, a3, a4, a5, sc, okV_none (.inl sa.still.n), okV_none (.inl sb.still.n), fun k hk => okV_some (.inr (sa.still.ver hk fun h => h)) (.inl sb.still.n), okV_none (.inl fb.n), fun k hk => okV_some (.inr (fb.ver (Nat.lt_of_lt_of_le hk sa.still.n) fun h => ?_)) (.inl fb.n)⟩
  unfold OnlyOf at h
  have := sa.new k h; omega

set_option maxHeartbeats 4000000 in
theorem q_BackupDecodes (b : List UInt8) (l : List Pr) (more : List UInt8) (v0 v1 v4 : Value) (at_ : Nat) (hat : at_ < 65536) (less : UInt8) (H : AHeap) (ok : MOk H) (hb : BR H v0 b) (hr : Rd EPr H v1 l) (hm : BR H v4 more) :
    ∃ H', CC F.law_BackupDecodes [v0, v1, .int .u16 (at_ : Int), .int .u8 (less.toNat : Int), v4] H = some (.bool true, H') := by
  have hs := q_small l v1 H hr
  have hl0 := hb.1.lenS
  have hl1 := hr.lenS
  have hl4 := hm.1.lenS
  by_cases h1 : 200 < (b.length : Int)
  · refine any_of (H1 := H) (d_law_BackupDecodes _ _ _ _ _ H ?_)
    simp (disch := first | with_reducible rfl | assumption | omega | rfl | (simp only [go_sem]; first | done | omega)) only [go_sem, ↓reduceIte, reduceCtorEq, Nat.reduceEqDiff, Nat.reduceAdd, Nat.reduceSub, Nat.reduceMul, Nat.reduceDiv, Nat.reduceMod, Nat.reduceLeDiff, Nat.reduceLT, Nat.reduceBEq, Int.reduceEq, Int.reduceBEq, Int.reduceBNe, Int.reduceLT, Int.reduceLE, Int.reduceAdd, Int.reduceSub, Int.reduceNeg, Int.reduceToNat, Int.reducePow, Nat.reducePow, Int.reduceMul, Int.reduceDiv, ↓s_law_BackupDecodes, hl0, h1]
  cases h2 : smallP l with
  | false =>
    rw [h2] at hs
    refine any_of (H1 := H) (d_law_BackupDecodes _ _ _ _ _ H ?_)
    simp (disch := first | with_reducible rfl | assumption | omega | rfl | (simp only [go_sem]; first | done | omega)) only [go_sem, ↓reduceIte, reduceCtorEq, Nat.reduceEqDiff, Nat.reduceAdd, Nat.reduceSub, Nat.reduceMul, Nat.reduceDiv, Nat.reduceMod, Nat.reduceLeDiff, Nat.reduceLT, Nat.reduceBEq, Int.reduceEq, Int.reduceBEq, Int.reduceBNe, Int.reduceLT, Int.reduceLE, Int.reduceAdd, Int.reduceSub, Int.reduceNeg, Int.reduceToNat, Int.reducePow, Nat.reducePow, Int.reduceMul, Int.reduceDiv, ↓s_law_BackupDecodes, hl0, h1, enterK_eq hs]
  | true =>
  rw [h2] at hs
  by_cases h3 : 12 < (l.length : Int)
  · refine any_of (H1 := H) (d_law_BackupDecodes _ _ _ _ _ H ?_)
    simp (disch := first | with_reducible rfl | assumption | omega | rfl | (simp only [go_sem]; first | done | omega)) only [go_sem, ↓reduceIte, reduceCtorEq, Nat.reduceEqDiff, Nat.reduceAdd, Nat.reduceSub, Nat.reduceMul, Nat.reduceDiv, Nat.reduceMod, Nat.reduceLeDiff, Nat.reduceLT, Nat.reduceBEq, Int.reduceEq, Int.reduceBEq, Int.reduceBNe, Int.reduceLT, Int.reduceLE, Int.reduceAdd, Int.reduceSub, Int.reduceNeg, Int.reduceToNat, Int.reducePow, Nat.reducePow, Int.reduceMul, Int.reduceDiv, ↓s_law_BackupDecodes, hl0, h1, enterK_eq hs, hl1, h3]
  by_cases h5 : 10 < (more.length : Int)
  · refine any_of (H1 := H) (d_law_BackupDecodes _ _ _ _ _ H ?_)
    simp (disch := first | with_reducible rfl | assumption | omega | rfl | (simp only [go_sem]; first | done | omega)) only [go_sem, ↓reduceIte, reduceCtorEq, Nat.reduceEqDiff, Nat.reduceAdd, Nat.reduceSub, Nat.reduceMul, Nat.reduceDiv, Nat.reduceMod, Nat.reduceLeDiff, Nat.reduceLT, Nat.reduceBEq, Int.reduceEq, Int.reduceBEq, Int.reduceBNe, Int.reduceLT, Int.reduceLE, Int.reduceAdd, Int.reduceSub, Int.reduceNeg, Int.reduceToNat, Int.reducePow, Nat.reducePow, Int.reduceMul, Int.reduceDiv, ↓s_law_BackupDecodes, hl0, h1, enterK_eq hs, hl1, h3, hl4, h5]
  obtain ⟨bm, H1, m1, fr1⟩ := q_filled l v1 H ok hr (by omega)
  have hfl : (fillP l).length ≤ 12 := by have := fill_len l []; unfold fillP; simp at this; omega
  generalize fillP l = m at fr1 hfl
  obtain ⟨v2, H2, m2, o2, s2, _⟩ := q_Pairs bm m H1 fr1.mdl (by omega)
  obtain ⟨v3, H3, m3, so3⟩ := q_bytesOf m v2 H2 o2.rd (by omega) fr1.vok.sz
  have s3 : Still H H3 := (fr1.still.trans s2).trans so3.still
  have hx67 := encB_67 fr1.wf
  have hx7 := (encB_parts m (by omega)).1
  have hx11 : 11 ≤ (encB m).length := by have := (encB_len m (by omega) fr1.vok.sz); omega
  obtain ⟨x, hx⟩ : ∃ x, encB m = x := ⟨_, rfl⟩
  rw [hx] at so3 hx67 hx7 hx11
  have rx : BR H3 v3 x := so3.own.sl
  obtain ⟨b3, o3, c3, hv3, hb3⟩ := shapeR rx (fun h => by rw [h] at hx7; simp at hx7)
  obtain ⟨X, hX⟩ : ∃ X, x.length = X := ⟨_, rfl⟩
  have hlx := rx.1.lenS
  rw [hX] at hlx hx67 hx7 hx11
  have rm3 := hm.still s3
  have ul := Eng.u8_lt less
  have hwat : IntKind.wrap .i64 (at_ : Int) = (at_ : Int) := wrap_i64 ⟨by omega, by omega⟩
  have hwl : IntKind.wrap .i64 (less.toNat : Int) = (less.toNat : Int) := wrap_i64 ⟨by omega, by omega⟩
  -- the first
  obtain ⟨i, hi⟩ : ∃ i, at_ % (X + 1) = i := ⟨_, rfl⟩
  have hiX : i ≤ X := by have := Nat.mod_lt at_ (show X + 1 > 0 by omega); omega
  obtain ⟨j, hj⟩ : ∃ j, min X (i + less.toNat) = j := ⟨_, rfl⟩
  have q1 : ∀ ox oy, xbin Try.prog .rem T.int ox oy (.int .i64 (at_ : Int)) (.int .i64 ((X : Int) + 1)) = some (.int .i64 (i : Int)) := fun ox oy => by rw [← hi]; exact remN (b := X + 1) (by omega)
  have j1 : min (X : Int) ((i : Int) + (less.toNat : Int)) = (j : Int) := by omega
  obtain ⟨w1, va, Ha, vb, Hb, w2, vc, Hc, a1, a2, a3, a4, a5, sc, k1, k2, k3, k4, k5⟩ := splice rx rm3 (i := i) (j := j) (by omega) (by omega) (by omega) (by omega)
  have k3 := k3 b3 hb3
  have k5 := k5 b3 hb3
  -- the second
  have rxc := rx.still sc.still
  obtain ⟨wz, a6, rz, hbz⟩ := rxc.to (sz := 1) rfl (j := X - 4) (q := .i64) (by omega)
  have sub4 : ∀ ox oy, xbin Try.prog .sub T.int ox oy (.int .i64 (X : Int)) (.int .i64 4) = some (.int .i64 ((X - 4 : Nat) : Int)) := fun ox oy => by
    rw [show ((X - 4 : Nat) : Int) = (X : Int) - 4 by omega]; exact sub_i64 (by omega)
  obtain ⟨z, hz⟩ : ∃ z, x.take (X - 4) = z := ⟨_, rfl⟩
  rw [hz] at rz
  obtain ⟨Z, hZ⟩ : ∃ Z, X - 4 = Z := ⟨_, rfl⟩
  have hZl : z.length = Z := by rw [← hz]; simp; omega
  have hlz := rz.1.lenS
  rw [hZl] at hlz
  rw [hZ] at sub4 a6
  have a6' : slS T.uint8 1 v3 none (some (.int .i64 ((X : Int) - 4))) none Hc = some wz := by rw [show (X : Int) - 4 = (Z : Int) by omega]; exact a6
  obtain ⟨bz, oz, cz, hvz, hbzn⟩ := shapeR rz (fun h => by rw [h] at hZl; simp at hZl; omega)
  obtain ⟨i2, hi2⟩ : ∃ i, at_ % (Z + 1) = i := ⟨_, rfl⟩
  have hiZ : i2 ≤ Z := by have := Nat.mod_lt at_ (show Z + 1 > 0 by omega); omega
  obtain ⟨j2, hj2⟩ : ∃ j, min Z (i2 + less.toNat) = j := ⟨_, rfl⟩
  have q2 : ∀ ox oy, xbin Try.prog .rem T.int ox oy (.int .i64 (at_ : Int)) (.int .i64 ((Z : Int) + 1)) = some (.int .i64 (i2 : Int)) := fun ox oy => by rw [← hi2]; exact remN (b := Z + 1) (by omega)
  have j2' : min (Z : Int) ((i2 : Int) + (less.toNat : Int)) = (j2 : Int) := by omega
  obtain ⟨w3, vd, Hd, ve, He, w4, vf, Hf, b1, b2, b3', b4, b5, sf, g1, g2, g3, g4, g5⟩ := splice rz (rm3.still sc.still) (i := i2) (j := j2) (by omega) (by omega) (by omega) (by omega)
  have g3 := g3 bz hbzn
  have g5 := g5 bz hbzn
  have hwl2 : (z.take i2 ++ more ++ z.drop j2).length ≤ 10000 := by simp; omega
  have hyl2 : (x.take i ++ more ++ x.drop j).length ≤ 20000 := by simp; omega
  generalize z.take i2 ++ more ++ z.drop j2 = w at sf hwl2
  generalize x.take i ++ more ++ x.drop j = y at sc hyl2
  have hck := q_lcheck w vf Hf sf.own.rd (by omega)
  have hadl := adl_lt w
  obtain ⟨Hg, m6, f6, s6, n6⟩ := q_many (adl w) 4 Hf hadl.1 (by omega) (by decide)
  have m6 : CC F.law_many [.int .i64 (adl w), .int .i64 4] Hf = some (.slice (some ⟨Hf.n, 0, none⟩) 4 8, Hg) := m6
  have rd6 : BR Hg (.slice (some ⟨Hf.n, 0, none⟩) 4 8) (be (adl w) 4) := by
    have := newB (l := be (adl w) 4) (b := Hf.n) (H := Hg) (by omega) f6
    rwa [be_length] at this
  obtain ⟨vh, Hh, m7, sh, _, _⟩ := (sf.to s6).appK (be (adl w) 4) (rd6.1.src (sz := 1) rfl) (by simp [be_length]; omega)
  have m7 : app T.uint8 1 1 vf (srcS 1 (.slice (some ⟨Hf.n, 0, none⟩) 4 8) Hg) Hg = some (vh, Hh) := m7
  have sch : Still Hc Hh := sh.still
  have s3h : Still H3 Hh := sc.still.trans sch
  have sHh : Still H Hh := s3.trans s3h
  have okh := ok.fr sHh
  have t1 := q_right b v0 Hh okh (hb.still sHh) (by omega)
  have t2 := q_right x v3 Hh okh (rx.still s3h) (by omega)
  have t3 := q_right y vc Hh okh (sc.own.sl.still sch) hyl2
  have t4 := q_right (w ++ be (adl w) 4) vh Hh okh sh.own.sl (by simp [be_length]; omega)
  have cb3 : blockOf v3 = some b3 := by rw [hv3]; rfl
  have cbz : blockOf wz = some bz := by rw [hvz]; rfl
  rw [hX] at hv3
  rw [hZl] at hvz
  subst hv3 hvz
  refine any_of (H1 := Hh) (d_law_BackupDecodes _ _ _ _ _ H ?_)
  simp (maxSteps := 2000000) (disch := first | with_reducible rfl | assumption | omega | rfl | (simp only [go_sem]; first | done | omega)) only [go_sem, ↓reduceIte, reduceCtorEq, Nat.reduceEqDiff, Nat.reduceAdd, Nat.reduceSub, Nat.reduceMul, Nat.reduceDiv, Nat.reduceMod, Nat.reduceLeDiff, Nat.reduceLT, Nat.reduceBEq, Int.reduceEq, Int.reduceBEq, Int.reduceBNe, Int.reduceLT, Int.reduceLE, Int.reduceAdd, Int.reduceSub, Int.reduceNeg, Int.reduceToNat, Int.reducePow, Nat.reducePow, Int.reduceMul, Int.reduceDiv, s_law_BackupDecodes, hl0, h1, enterK_eq hs, hl1, h3, hl4, h5]
  simp (disch := first | with_reducible rfl | assumption | omega | rfl | (simp only [go_sem]; first | done | omega)) only [go_sem, ↓reduceIte, reduceCtorEq, Nat.reduceEqDiff, Nat.reduceAdd, Nat.reduceSub, Nat.reduceMul, Nat.reduceDiv, Nat.reduceMod, Nat.reduceLeDiff, Nat.reduceLT, Nat.reduceBEq, Int.reduceEq, Int.reduceBEq, Int.reduceBNe, Int.reduceLT, Int.reduceLE, Int.reduceAdd, Int.reduceSub, Int.reduceNeg, Int.reduceToNat, Int.reducePow, Nat.reducePow, Int.reduceMul, Int.reduceDiv, enterK_eq m1, enterK_eq m2, enterK_eq m3, x_uint16_int, hwat, hlx, q1, x_uint8_int, hwl, j1, a1, a2, a3, a4, a5, k1, k2, k3, k4, k5]
  simp (disch := first | with_reducible rfl | assumption | omega | rfl | (simp only [go_sem]; first | done | omega)) only [go_sem, ↓reduceIte, reduceCtorEq, Nat.reduceEqDiff, Nat.reduceAdd, Nat.reduceSub, Nat.reduceMul, Nat.reduceDiv, Nat.reduceMod, Nat.reduceLeDiff, Nat.reduceLT, Nat.reduceBEq, Int.reduceEq, Int.reduceBEq, Int.reduceBNe, Int.reduceLT, Int.reduceLE, Int.reduceAdd, Int.reduceSub, Int.reduceNeg, Int.reduceToNat, Int.reducePow, Nat.reducePow, Int.reduceMul, Int.reduceDiv, hlx, a6', x_uint16_int, hwat, hlz, q2, x_uint8_int, hwl, j2', b1, b2, b3', b4, b5, g1, g2, g3, g4, g5]
  simp (disch := first | with_reducible rfl | assumption | omega | rfl | (simp only [go_sem]; first | done | omega)) only [go_sem, ↓reduceIte, reduceCtorEq, Nat.reduceEqDiff, Nat.reduceAdd, Nat.reduceSub, Nat.reduceMul, Nat.reduceDiv, Nat.reduceMod, Nat.reduceLeDiff, Nat.reduceLT, Nat.reduceBEq, Int.reduceEq, Int.reduceBEq, Int.reduceBNe, Int.reduceLT, Int.reduceLE, Int.reduceAdd, Int.reduceSub, Int.reduceNeg, Int.reduceToNat, Int.reducePow, Nat.reducePow, Int.reduceMul, Int.reduceDiv, enterK_eq hck, enterK_eq m6, m7, enterK_eq t1, enterK_eq t2, enterK_eq t3, enterK_eq t4]

theorem run_BackupDecodes (W : World) (v0 : Value) (b : List UInt8) (rb : RdS EB T.uint8 (absHeap2 W) v0 b) (_ : ∀ x, x ∈ b → True) (_ : b.length ≤ maxLen) (v1 : Value) (l : List Pr) (r1 : RdS EPr T.api_Pair (absHeap2 W) v1 l) (_ : ∀ x, x ∈ l → True) (_ : l.length ≤ maxLen)
    (at_ : Int) (ha : (Lit.int .u16 at_).wf = true) (less : Int) (hy : (Lit.int .u8 less).wf = true) (v4 : Value) (more : List UInt8) (rm : RdS EB T.uint8 (absHeap2 W) v4 more) (_ : ∀ x, x ∈ more → True) (_ : more.length ≤ maxLen) :
    ∃ k H', dCall Try.prog prims1 hints k F.law_BackupDecodes [v0, v1, .int .u16 at_, .int .u8 less, v4] (absHeap2 W) = some (.bool true, H') := by
  obtain ⟨y, rfl⟩ := wf_u8' hy
  have ha := wf_u16 ha
  obtain ⟨x, rfl⟩ : ∃ x : Nat, at_ = x := ⟨at_.toNat, by omega⟩
  obtain ⟨H', h⟩ := q_BackupDecodes b l more v0 v1 v4 x (by omega) y (absHeap2 W) (absHeap2_ok W) rb r1.1 rm
  obtain ⟨k, h⟩ := D_run h
  exact ⟨k, _, h⟩

end Go.Proofs.Ytehnchfnhbmkdaa

/-
  The law BackupDecodes: for every input it returns true, and its input reads as it did.
  Conditions: none. By an AI agent.
-/
namespace Go.Proofs.Ytehnchfnhbmkdaa.backupDecodes
open Go.ChangeShapes Go.WideShapes Go.ChangeAt Go.RowKit
open Go.ChangeMaps (open_string shut_string)
set_option linter.unusedVariables false
theorem own : ownKnob Try.prog.godebug = none := by kernel_rfl
theorem laidOut : laidOutB Try.prog = true := by kernel_rfl
set_option maxRecDepth 100000 in
theorem lifted (os : Os) (started : os.Started) (H : Type) (enc : TypeId × Value → H) :
    ReturnsInHanded {} Try.checked os 7 .any (Rows.backupDecodesSpec.pre6 enc Try.prog Try.f7 Rows.backupDecodesRow.domain false) (Rows.backupDecodesSpec.post enc Try.prog Try.f7 false true false false) := by
  refine returnsInHanded_of_change_sized (C := Try.checked) own started (by kernel_rfl) Try.func7
    (ChangeSpec.witness6 (enc := enc) (C := Try.checked) false ⟨#[], #[.slice none 0 0, .slice none 0 0, .int .u16 0, .int .u8 0, .slice none 0 0], []⟩ 8 (by kernel_rfl) (by kernel_rfl) (by kernel_rfl) (by kernel_rfl)) ?_
  intro W base args ds gs before hval0 hW hcnd hsz0 _
  have hsz : (DataW.weightsEach Try.prog (Try.f7.params.toList ++ Rows.backupDecodesSpec.plain.varTypes Try.prog) (ds ++ gs)).all (· ≤ reachBytes) = true := hsz0
  have hval : ∀ (j : Nat) t v, Try.f7.params[j]? = some t → args[j]? = some v → Value.okWide Try.prog W .any base t v := hval0
  have hW' := hW
  obtain ⟨p, q, hA0, hV, rfl, hfz, hnd⟩ := hW
  have hA : DataW.TrodAll enc Try.prog W 0 (fun _ => true) true Try.f7.params.toList args.toList ds p := hA0
  rw [Try.params7] at hA hval hsz
  obtain ⟨v0, vs0, d0, ds0, p0, q0, hargs, rfl, rfl, h0, r0⟩ := trodAll_cons hA
  obtain ⟨v1, vs1, d1, ds1, p1, q1, rfl, rfl, rfl, h1, r1⟩ := trodAll_cons r0
  obtain ⟨v2, vs2, d2, ds2, p2, q2, rfl, rfl, rfl, h2, r2⟩ := trodAll_cons r1
  obtain ⟨v3, vs3, d3, ds3, p3, q3, rfl, rfl, rfl, h3, r3⟩ := trodAll_cons r2
  obtain ⟨v4, vs4, d4, ds4, p4, q4, rfl, rfl, rfl, h4, r4⟩ := trodAll_cons r3
  obtain ⟨rfl, rfl, rfl⟩ := trodAll_nil r4
  obtain rfl : args = #[v0, v1, v2, v3, v4] := by cases args; simp_all
  obtain ⟨rfl, rfl⟩ := trodVars_none hV
  have k0 := h0
  have lt0 : ∀ x ∈ p0, x.block < W.heap.size := by obtain ⟨m, hm⟩ := k0; exact DataW.trod_lt m _ _ _ hm
  obtain ⟨l0, rd0, all0, len0⟩ := Eng.open_rd2 (t := 22) (e' := 5) Try.underlying22 (by kernel_rfl) (fun hp cs n y h hl => decB2 hp h hl) (hval 0 22 v0 rfl rfl) k0
  have k1 := h1
  have lt1 : ∀ x ∈ p1, x.block < W.heap.size := by obtain ⟨m, hm⟩ := k1; exact DataW.trod_lt m _ _ _ hm
  obtain ⟨l1, rd1, all1, len1⟩ := Eng.open_rd2 (t := 37) (e' := 60) Try.underlying37 (by kernel_rfl) (fun hp cs n y h hl => decPr2 hp h hl) (hval 1 37 v1 rfl rfl) k1
  obtain ⟨a2, rfl, rfl, rfl, w2⟩ := open_int Try.underlying48 (hval 2 48 v2 rfl rfl) h2
  obtain ⟨a3, rfl, rfl, rfl, w3⟩ := open_int Try.underlying5 (hval 3 5 v3 rfl rfl) h3
  have k4 := h4
  have lt4 : ∀ x ∈ p4, x.block < W.heap.size := by obtain ⟨m, hm⟩ := k4; exact DataW.trod_lt m _ _ _ hm
  obtain ⟨l4, rd4, all4, len4⟩ := Eng.open_rd2 (t := 22) (e' := 5) Try.underlying22 (by kernel_rfl) (fun hp cs n y h hl => decB2 hp h hl) (hval 4 22 v4 rfl rfl) k4
  refine (Eng.law_calls2 (args := #[v0, v1, .int .u16 a2, .int .u8 a3, v4]) prims1_ok mixed (fun _ hg => absurd hg List.not_mem_nil) (run_BackupDecodes W (Eng.convA2 W.heap.size v0) l0 rd0 all0 len0 (Eng.convA2 W.heap.size v1) l1 rd1 all1 len1 a2 w2 a3 w3 (Eng.convA2 W.heap.size v4) l4 rd4 all4 len4)).mono fun e W' ⟨he, bel⟩ => ?_
  subst he
  exact ⟨_, rfl, _, _, _, [], _, [], hW', trodAll_mk1 (shut_bool Try.underlying4 _), (trodAll_cons_mk (Below.trod laidOut (by kernel_rfl) (of_decide_eq_true (by kernel_rfl)) k0 bel lt0) (trodAll_cons_mk (Below.trod laidOut (by kernel_rfl) (of_decide_eq_true (by kernel_rfl)) k1 bel lt1) (trodAll_cons_mk (shut_int Try.underlying48 w2) (trodAll_cons_mk (shut_int Try.underlying5 w3) (trodAll_cons_mk (Below.trod laidOut (by kernel_rfl) (of_decide_eq_true (by kernel_rfl)) k4 bel lt4) trodAll_mk0))))), rfl, bel.frame _, fun h => by cases h⟩

theorem over : Rows.backupDecodesRow.holds Try.pinned (OpenSpec.ofChange Rows.backupDecodesSpec) :=
  OpenClaim.holds_of_wide 7 Try.f7 rfl rfl rfl rfl rfl rfl rfl ⟨rfl, rfl, rfl, rfl, rfl⟩ rfl rfl rfl rfl rfl (by kernel_rfl) Try.func7 (by kernel_rfl)
    (of_decide_eq_true (by kernel_rfl)) (by unfold Func.isWrapper; first | (rw [if_pos (by decide +kernel)]; kernel_rfl) | (rw [if_neg (by decide +kernel)]; exact ⟨rfl, rfl⟩))
    (fun os started H enc _ => lifted os started H enc)
theorem proved : Rows.BackupDecodesSaid := over
#print axioms proved
end Go.Proofs.Ytehnchfnhbmkdaa.backupDecodes
namespace Go.Proofs.Ytehnchfnhbmkdaa
/-- The row, under a short name, for the claim. -/
theorem backupDecodes_holds : Rows.BackupDecodesSaid := backupDecodes.proved
end Go.Proofs.Ytehnchfnhbmkdaa
