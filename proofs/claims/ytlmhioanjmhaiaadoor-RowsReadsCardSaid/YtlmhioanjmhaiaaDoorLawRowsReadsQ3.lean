/-
  2 texts in one (merge.py): Pq LawRowsReads.
  Conditions: none. By an AI agent.
-/
import Derived.Test.YtlmhioanjmhaiaaDoorLawRowsReadsQ2
import Derived.Test.YtlmhioanjmhaiaaDoorRows
import Derived.Test.YtlmhioanjmhaiaaDoorCards
import Derived.Test.YtlmhioanjmhaiaaDoorTie
import Derived.WalkKit
import Derived.ProofKit
import Derived.OpenShut
import Derived.ShutString
import Derived.ChangeOld
import Derived.Below
import Derived.SizedLaws
import Derived.ChangeArms
import Derived.Carry
import Derived.Lay
import Derived.PinnedBridge
import Derived.LaidOnce
import Derived.SevenTiedAt
import Derived.HandedShaped
import Derived.Shelf.Vars

/-
  Chapter 40: RowsReads (printed by gen_pq.py).
  Conditions: none. By an AI agent.
-/
set_option maxRecDepth 10000
set_option linter.unusedSimpArgs false
set_option linter.unusedVariables false
namespace Go.Proofs.YtlmhioanjmhaiaaDoor
open Go Eng

theorem enc_len60 {c : Cl} (h : CellOk c) (hs : (bl c.s).length ≤ 60) : (enc c).length ≤ 122 := by
  have p8 : (256 : Nat) ^ 8 = 18446744073709551616 := by decide
  obtain ⟨h1, h2, h3⟩ := h
  have l1 := dg_len 8 c.u.toNat (by omega)
  have l2 := dg_len 8 c.i.toNat (by omega)
  have l3 := dg_len 8 (-(c.i + 1)).toNat (by omega)
  have l4 := esc_len (bl c.s)
  unfold enc
  split
  · simp; omega
  · split
    · split
      · simp; omega
      · simp; omega
    · split
      · simp; omega
      · split <;> simp
theorem encs_len60 : ∀ {l : List Cl}, (∀ c ∈ l, CellOk c ∧ (bl c.s).length ≤ 60) → (encs l).length ≤ 122 * l.length
  | [], _ => by simp [encs]
  | c :: l, h => by
    have h1 := encs_len60 (l := l) fun x hx => h x (by simp [hx])
    have h2 := enc_len60 (h c (by simp)).1 (h c (by simp)).2
    simp [encs]; omega

set_option maxHeartbeats 4000000 in
theorem q_RowsReads (n : Int) (kv rv : Value) (kl rl : List Int) (l : List Cl) (w : Value) (key val more : ByteArray) (at0 : Int) (H : AHeap) (ok : OkH H) (hk : KR H kv kl) (hr : KR H rv rl) (hw : CR H w l) (hn : ∀ c ∈ l, NumOk c) (ha0 : 0 ≤ at0 ∧ at0 < 256) :
    ∃ H', CC F.law_RowsReads [tbV n kv rv, w, .string key, .string val, .int .u8 at0, .string more] H = some (.bool true, H') := by
  obtain ⟨key, rfl⟩ : ∃ kb, key = mk kb := ⟨bl key, (mk_bl _).symm⟩
  obtain ⟨val, rfl⟩ : ∃ kb, val = mk kb := ⟨bl val, (mk_bl _).symm⟩
  obtain ⟨more, rfl⟩ : ∃ kb, more = mk kb := ⟨bl more, (mk_bl _).symm⟩
  obtain ⟨H1, hH1⟩ : ∃ H1, H.push (.cells [.int .i64 n, kv, rv] T.api_Table true) = H1 := ⟨_, rfl⟩
  have s1 : Still H H1 := by rw [← hH1]; exact (Fr.refl H).push _
  have f1 : H1.f H.n = .cells [.int .i64 n, kv, rv] T.api_Table true := by rw [← hH1]; exact push_f_eq rfl
  have hk1 := hk.still s1
  have hr1 := hr.still s1
  have hw1 := hw.still s1
  have ok1 := s1.ok ok
  have sm := q_small n kv rv kl.length rl.length l w H1 hk.1.lenS hr.1.lenS hk.one hr.one hw1.1
  have lk := hk.1.lenS
  have lr := hr.1.lenS
  have lw := hw.1.lenS
  cases h0 : smallP kl.length rl.length l with
  | false =>
    rw [h0] at sm
    refine any_of (H1 := H1) (d_law_RowsReads _ _ _ _ _ _ H ?_)
    simp (disch := first | with_reducible rfl | assumption | omega | rfl | (simp only [go_sem]; first | done | omega)) only [go_sem, ↓reduceIte, reduceCtorEq, Nat.reduceEqDiff, Nat.reduceAdd, Nat.reduceSub, Nat.reduceMul, Nat.reduceDiv, Nat.reduceMod, Nat.reduceLeDiff, Nat.reduceLT, Nat.reduceBEq, Int.reduceEq, Int.reduceBEq, Int.reduceBNe, Int.reduceLT, Int.reduceLE, Int.reduceAdd, Int.reduceSub, Int.reduceNeg, Int.reduceToNat, Int.reducePow, Nat.reducePow, Int.reduceMul, Int.reduceDiv, ↓s_law_RowsReads, hH1, f1, ↓enterK_eq sm, enterK_eq sm]
  | true =>
  rw [h0] at sm
  obtain ⟨p1, p2, p3, p4⟩ := smallP_ok h0
  refine (Classical.em (60 < (key.length : Int))).elim (fun hA => ?_) fun hA => ?_
  · refine any_of (H1 := H1) (d_law_RowsReads _ _ _ _ _ _ H ?_)
    simp (disch := first | with_reducible rfl | assumption | omega | rfl | (simp only [go_sem]; first | done | omega)) only [go_sem, ↓reduceIte, reduceCtorEq, Nat.reduceEqDiff, Nat.reduceAdd, Nat.reduceSub, Nat.reduceMul, Nat.reduceDiv, Nat.reduceMod, Nat.reduceLeDiff, Nat.reduceLT, Nat.reduceBEq, Int.reduceEq, Int.reduceBEq, Int.reduceBNe, Int.reduceLT, Int.reduceLE, Int.reduceAdd, Int.reduceSub, Int.reduceNeg, Int.reduceToNat, Int.reducePow, Nat.reducePow, Int.reduceMul, Int.reduceDiv, ↓s_law_RowsReads, hH1, f1, ↓enterK_eq sm, enterK_eq sm, bl_mk, hA]
  refine (Classical.em (60 < (val.length : Int))).elim (fun hB => ?_) fun hB => ?_
  · refine any_of (H1 := H1) (d_law_RowsReads _ _ _ _ _ _ H ?_)
    simp (disch := first | with_reducible rfl | assumption | omega | rfl | (simp only [go_sem]; first | done | omega)) only [go_sem, ↓reduceIte, reduceCtorEq, Nat.reduceEqDiff, Nat.reduceAdd, Nat.reduceSub, Nat.reduceMul, Nat.reduceDiv, Nat.reduceMod, Nat.reduceLeDiff, Nat.reduceLT, Nat.reduceBEq, Int.reduceEq, Int.reduceBEq, Int.reduceBNe, Int.reduceLT, Int.reduceLE, Int.reduceAdd, Int.reduceSub, Int.reduceNeg, Int.reduceToNat, Int.reducePow, Nat.reducePow, Int.reduceMul, Int.reduceDiv, ↓s_law_RowsReads, hH1, f1, ↓enterK_eq sm, enterK_eq sm, bl_mk, hA, hB]
  refine (Classical.em (6 < (more.length : Int))).elim (fun hC => ?_) fun hC => ?_
  · refine any_of (H1 := H1) (d_law_RowsReads _ _ _ _ _ _ H ?_)
    simp (disch := first | with_reducible rfl | assumption | omega | rfl | (simp only [go_sem]; first | done | omega)) only [go_sem, ↓reduceIte, reduceCtorEq, Nat.reduceEqDiff, Nat.reduceAdd, Nat.reduceSub, Nat.reduceMul, Nat.reduceDiv, Nat.reduceMod, Nat.reduceLeDiff, Nat.reduceLT, Nat.reduceBEq, Int.reduceEq, Int.reduceBEq, Int.reduceBNe, Int.reduceLT, Int.reduceLE, Int.reduceAdd, Int.reduceSub, Int.reduceNeg, Int.reduceToNat, Int.reducePow, Nat.reducePow, Int.reduceMul, Int.reduceDiv, ↓s_law_RowsReads, hH1, f1, ↓enterK_eq sm, enterK_eq sm, bl_mk, hA, hB, hC]
  have hc : ∀ c ∈ l, CellOk c := fun c hc => ⟨(hn c hc).1, (hn c hc).2, by have := p4 c hc; omega⟩
  have m1 := q_valid n kv rv kl rl H1 hk1 hr1
  have m2 := q_first n kv rv kl rl l w H1 hk1 hr1 hw1.1 (by omega) (by omega)
  have rnil : ∀ H : AHeap, Rd ECl H (.slice none 0 0) [] := fun H => .inl ⟨rfl, rfl⟩
  cases hv : validP n kl rl with
  | false =>
    rw [hv] at m1
    have rd := q_read n kv rv kl rl key val [] (.slice none 0 0) 2 H1 ok1 hk1 hr1 (rnil H1) (by omega) (by omega) (by simp) (by unfold readR; rw [if_neg (by rw [hv]; decide)])
    refine any_of (H1 := H1) (d_law_RowsReads _ _ _ _ _ _ H ?_)
    simp (disch := first | with_reducible rfl | assumption | omega | rfl | (simp only [go_sem]; first | done | omega)) only [go_sem, ↓reduceIte, reduceCtorEq, Nat.reduceEqDiff, Nat.reduceAdd, Nat.reduceSub, Nat.reduceMul, Nat.reduceDiv, Nat.reduceMod, Nat.reduceLeDiff, Nat.reduceLT, Nat.reduceBEq, Int.reduceEq, Int.reduceBEq, Int.reduceBNe, Int.reduceLT, Int.reduceLE, Int.reduceAdd, Int.reduceSub, Int.reduceNeg, Int.reduceToNat, Int.reducePow, Nat.reducePow, Int.reduceMul, Int.reduceDiv, ↓s_law_RowsReads, hH1, f1, ↓enterK_eq sm, enterK_eq sm, bl_mk, hA, hB, hC, ↓enterK_eq m1, enterK_eq m1, ↓enterK_eq rd, enterK_eq rd]
  | true =>
  rw [hv] at m1
  have hvn := validP_n hv
  have hend : ∀ (x y : List UInt8) (H2 : AHeap), x.length ≤ 1000 → y.length ≤ 1000 → Still H1 H2 →
      (∃ (v : Value) (H3 : AHeap), CC F.law_found [tbV n kv rv, .string (mk x), .string (mk y)] H2 = some (.tuple #[v, .bool false], H3) ∧ H3.f H.n = .cells [.int .i64 n, kv, rv] T.api_Table true ∧ CC F.law_read [tbV n kv rv, .string (mk x), .string (mk y), .slice none 0 0, .int .i64 12] H3 = some (.bool true, H3)) ∨
      (∃ (v : Value) (H3 : AHeap), CC F.law_found [tbV n kv rv, .string (mk x), .string (mk y)] H2 = some (.tuple #[v, .bool true], H3) ∧ H3.f H.n = .cells [.int .i64 n, kv, rv] T.api_Table true ∧ CC F.law_read [tbV n kv rv, .string (mk x), .string (mk y), v, .int .i64 0] H3 = some (.bool true, H3)) := by
    intro x y H2 hx hy s2
    obtain ⟨q1, q2⟩ := q_found n kv rv kl rl x y H2 (hk1.still s2) (hr1.still s2) hv hx hy
    have rf := read_found hv hx hy
    have n1 : H.n < H1.n := by rw [← hH1]; exact Nat.lt_succ_self _
    cases hf : foundR n kl rl x y with
    | none =>
      rw [hf] at rf
      obtain ⟨v, H3, e, s3⟩ := q1 hf
      have st := s2.trans s3
      exact .inl ⟨v, H3, e, by rw [st.f n1 fun h => h]; exact f1, q_read n kv rv kl rl x y [] (.slice none 0 0) 12 H3 (st.ok ok1) (hk1.still st) (hr1.still st) (rnil H3) hx hy (by simp) rf⟩
    | some m =>
      rw [hf] at rf
      obtain ⟨v, H3, e, s3⟩ := q2 m hf
      have st := s2.trans s3.still
      have hm : m.length ≤ 1000 := by
        have hrow := rowR_ok (foundR_row hv hx hy hf).1
        have := hrow.1
        unfold rowOk areP at this
        simp only [Bool.and_eq_true, decide_eq_true_eq, List.length_append] at this
        omega
      exact .inr ⟨v, H3, e, by rw [st.f n1 fun h => h]; exact f1, q_read n kv rv kl rl x y m v 0 H3 (st.ok ok1) (hk1.still st) (hr1.still st) s3.own.rd hx hy hm rf⟩
  cases hf : firstP l (kl ++ rl) with
  | false =>
    rw [hf] at m2
    have he := hend key val H1 (by omega) (by omega) (Fr.refl H1)
    rcases he with ⟨v, H3, e1, e2, e3⟩ | ⟨v, H3, e1, e2, e3⟩
    · refine any_of (H1 := H3) (d_law_RowsReads _ _ _ _ _ _ H ?_)
      simp (maxSteps := 2000000) (disch := first | with_reducible rfl | assumption | omega | rfl | (simp only [go_sem]; first | done | omega)) only [go_sem, ↓reduceIte, reduceCtorEq, Nat.reduceEqDiff, Nat.reduceAdd, Nat.reduceSub, Nat.reduceMul, Nat.reduceDiv, Nat.reduceMod, Nat.reduceLeDiff, Nat.reduceLT, Nat.reduceBEq, Int.reduceEq, Int.reduceBEq, Int.reduceBNe, Int.reduceLT, Int.reduceLE, Int.reduceAdd, Int.reduceSub, Int.reduceNeg, Int.reduceToNat, Int.reducePow, Nat.reducePow, Int.reduceMul, Int.reduceDiv, s_law_RowsReads, hH1, f1, ↓enterK_eq sm, enterK_eq sm, bl_mk, hA, hB, hC, ↓enterK_eq m1, enterK_eq m1, ↓enterK_eq m2, enterK_eq m2, ↓enterK_eq e1, enterK_eq e1, e2, ↓enterK_eq e3, enterK_eq e3]
    · refine any_of (H1 := H3) (d_law_RowsReads _ _ _ _ _ _ H ?_)
      simp (maxSteps := 2000000) (disch := first | with_reducible rfl | assumption | omega | rfl | (simp only [go_sem]; first | done | omega)) only [go_sem, ↓reduceIte, reduceCtorEq, Nat.reduceEqDiff, Nat.reduceAdd, Nat.reduceSub, Nat.reduceMul, Nat.reduceDiv, Nat.reduceMod, Nat.reduceLeDiff, Nat.reduceLT, Nat.reduceBEq, Int.reduceEq, Int.reduceBEq, Int.reduceBNe, Int.reduceLT, Int.reduceLE, Int.reduceAdd, Int.reduceSub, Int.reduceNeg, Int.reduceToNat, Int.reducePow, Nat.reducePow, Int.reduceMul, Int.reduceDiv, s_law_RowsReads, hH1, f1, ↓enterK_eq sm, enterK_eq sm, bl_mk, hA, hB, hC, ↓enterK_eq m1, enterK_eq m1, ↓enterK_eq m2, enterK_eq m2, ↓enterK_eq e1, enterK_eq e1, e2, ↓enterK_eq e3, enterK_eq e3]
  | true =>
  rw [hf] at m2
  refine (Classical.em ((l.length : Int) = (kl.length : Int) + (rl.length : Int))).elim (fun hD => ?_) fun hD => ?_
  rotate_left
  · have he := hend key val H1 (by omega) (by omega) (Fr.refl H1)
    rcases he with ⟨v, H3, e1, e2, e3⟩ | ⟨v, H3, e1, e2, e3⟩
    · refine any_of (H1 := H3) (d_law_RowsReads _ _ _ _ _ _ H ?_)
      simp (maxSteps := 2000000) (disch := first | with_reducible rfl | assumption | omega | rfl | (simp only [go_sem]; first | done | omega)) only [go_sem, ↓reduceIte, reduceCtorEq, Nat.reduceEqDiff, Nat.reduceAdd, Nat.reduceSub, Nat.reduceMul, Nat.reduceDiv, Nat.reduceMod, Nat.reduceLeDiff, Nat.reduceLT, Nat.reduceBEq, Int.reduceEq, Int.reduceBEq, Int.reduceBNe, Int.reduceLT, Int.reduceLE, Int.reduceAdd, Int.reduceSub, Int.reduceNeg, Int.reduceToNat, Int.reducePow, Nat.reducePow, Int.reduceMul, Int.reduceDiv, s_law_RowsReads, hH1, f1, ↓enterK_eq sm, enterK_eq sm, bl_mk, hA, hB, hC, ↓enterK_eq m1, enterK_eq m1, ↓enterK_eq m2, enterK_eq m2, lw, lk, lr, hD, ↓enterK_eq e1, enterK_eq e1, e2, ↓enterK_eq e3, enterK_eq e3]
    · refine any_of (H1 := H3) (d_law_RowsReads _ _ _ _ _ _ H ?_)
      simp (maxSteps := 2000000) (disch := first | with_reducible rfl | assumption | omega | rfl | (simp only [go_sem]; first | done | omega)) only [go_sem, ↓reduceIte, reduceCtorEq, Nat.reduceEqDiff, Nat.reduceAdd, Nat.reduceSub, Nat.reduceMul, Nat.reduceDiv, Nat.reduceMod, Nat.reduceLeDiff, Nat.reduceLT, Nat.reduceBEq, Int.reduceEq, Int.reduceBEq, Int.reduceBNe, Int.reduceLT, Int.reduceLE, Int.reduceAdd, Int.reduceSub, Int.reduceNeg, Int.reduceToNat, Int.reducePow, Nat.reducePow, Int.reduceMul, Int.reduceDiv, s_law_RowsReads, hH1, f1, ↓enterK_eq sm, enterK_eq sm, bl_mk, hA, hB, hC, ↓enterK_eq m1, enterK_eq m1, ↓enterK_eq m2, enterK_eq m2, lw, lk, lr, hD, ↓enterK_eq e1, enterK_eq e1, e2, ↓enterK_eq e3, enterK_eq e3]
  have hD' : ((l.length : Int) = (kl.length : Int) + (rl.length : Int)) = True := by simp [hD]
  have cA := x_num hvn.1
  obtain ⟨H2, hH2⟩ : ∃ H2, H1.push (.cells [.int .u8 (((n.toNat : Nat) : Int) % 256)] T.uint8 true) = H2 := ⟨_, rfl⟩
  obtain ⟨s2, sx⟩ := one_str n.toNat hH2
  have f2 : H2.f H.n = .cells [.int .i64 n, kv, rv] T.api_Table true := by
    rw [s2.f (by rw [← hH1]; exact Nat.lt_succ_self _) fun h => h]; exact f1
  have hw2 := hw1.still s2
  obtain ⟨k5, a5, r5, _⟩ := hw2.to (sz := 5) rfl (j := kl.length) (q := .i64) (by omega)
  obtain ⟨k6, a6, r6, _⟩ := hw2.from (sz := 5) rfl (i := kl.length) (q := .i64) (by omega)
  have j5 := q_joined (l.take kl.length) (by simp; omega) (fun c h => hc c (List.mem_of_mem_take h)) k5 [by8 n.toNat] H2 r5.1 (by simp)
  have j5 : CC F.law_joined [.string (mk [by8 n.toNat]), k5] H2 = some (.string (mk (keyB n kl l)), H2) := j5
  have j6 := q_joined (l.drop kl.length) (by simp; omega) (fun c h => hc c (List.mem_of_mem_drop h)) k6 [] H2 r6.1 (by simp)
  have j6 : CC F.law_joined [.string (mk []), k6] H2 = some (.string (mk (valB kl l)), H2) := j6
  have hxl : (keyB n kl l).length ≤ 977 := by
    have := encs_len60 (l := l.take kl.length) fun c h => ⟨hc c (List.mem_of_mem_take h), p4 c (List.mem_of_mem_take h)⟩
    unfold keyB
    simp at this ⊢
    omega
  have hyl : (valB kl l).length ≤ 976 := by
    have := encs_len60 (l := l.drop kl.length) fun c h => ⟨hc c (List.mem_of_mem_drop h), p4 c (List.mem_of_mem_drop h)⟩
    unfold valB
    simp at this ⊢
    omega
  generalize keyB n kl l = x at j5 hxl
  generalize valB kl l = y at j6 hyl
  have cat : ∀ H, xconv Tryd.prog T.uint8 T.int (.int .u8 at0) H = some (.int .i64 at0, H) := fun H => by rw [x_uint8_int, wrap_i64 ⟨by omega, by omega⟩]
  obtain ⟨I, hI⟩ : ∃ I : Nat, at0 % ((x.length : Int) + (y.length : Int) + 1) = I := ⟨(at0 % ((x.length : Int) + (y.length : Int) + 1)).toNat, by have := Int.emod_nonneg at0 (b := (x.length : Int) + (y.length : Int) + 1) (by omega); omega⟩
  have hI2 : (I : Int) < (x.length : Int) + (y.length : Int) + 1 := by rw [← hI]; exact Int.emod_lt_of_pos _ (by omega)
  have em : ∀ ox oy, xbin Tryd.prog .rem T.int ox oy (.int .i64 at0) (.int .i64 ((x.length : Int) + (y.length : Int) + 1)) = some (.int .i64 (I : Int)) := fun ox oy => by rw [remP ha0.1 (by omega), hI]
  have eI : ∀ ox oy, xbin Tryd.prog .add T.int ox oy (.int .i64 (I : Int)) (.int .i64 1) = some (.int .i64 ((I : Int) + 1)) := fun ox oy => add_i64 (by omega)
  refine (Classical.em ((I : Int) < (x.length : Int))).elim (fun hL => ?_) fun hL => ?_
  · have t1 := slT_hi (s := mk x) (q := .i64) (j := I) (by rw [bl_mk]; omega)
    have t2 := slT_lo (s := mk x) (q := .i64) (i := I + 1) (by rw [bl_mk]; omega)
    rw [bl_mk] at t1 t2
    have t2 : slT (.string (mk x)) (some (.int .i64 ((I : Int) + 1))) none = some (.string (mk (x.drop (I + 1)))) := t2
    have b1 : ∀ ox oy, xbin Tryd.prog .add T.string ox oy (.string (mk (x.take I))) (.string (mk more)) = some (.string (mk (x.take I ++ more))) := fun ox oy => str_add' (by simp; omega)
    have b2 : ∀ ox oy, xbin Tryd.prog .add T.string ox oy (.string (mk (x.take I ++ more))) (.string (mk (x.drop (I + 1)))) = some (.string (mk (x.take I ++ more ++ x.drop (I + 1)))) := fun ox oy => str_add' (by simp; omega)
    have he := hend (x.take I ++ more ++ x.drop (I + 1)) y H2 (by simp; omega) (by omega) s2
    generalize x.take I ++ more ++ x.drop (I + 1) = z at b2 he
    generalize x.take I ++ more = z1 at b1 b2
    generalize x.take I = z2 at t1 b1
    generalize x.drop (I + 1) = z3 at t2 b2
    rcases he with ⟨v, H3, e1, e2, e3⟩ | ⟨v, H3, e1, e2, e3⟩
    · refine any_of (H1 := H3) (d_law_RowsReads _ _ _ _ _ _ H ?_)
      simp (maxSteps := 2000000) (disch := first | with_reducible rfl | assumption | omega | rfl | (simp only [go_sem]; first | done | omega)) only [go_sem, ↓reduceIte, reduceCtorEq, Nat.reduceEqDiff, Nat.reduceAdd, Nat.reduceSub, Nat.reduceMul, Nat.reduceDiv, Nat.reduceMod, Nat.reduceLeDiff, Nat.reduceLT, Nat.reduceBEq, Int.reduceEq, Int.reduceBEq, Int.reduceBNe, Int.reduceLT, Int.reduceLE, Int.reduceAdd, Int.reduceSub, Int.reduceNeg, Int.reduceToNat, Int.reducePow, Nat.reducePow, Int.reduceMul, Int.reduceDiv, s_law_RowsReads, hH1, f1, ↓enterK_eq sm, enterK_eq sm, bl_mk, hA, hB, hC, ↓enterK_eq m1, enterK_eq m1, ↓enterK_eq m2, enterK_eq m2, lw, lk, lr, hD', ↓cA, cA, hH2, sx, f2, a5, ↓enterK_eq j5, enterK_eq j5, a6, ↓enterK_eq j6, enterK_eq j6, ↓cat, cat, em, hL, eI, t1, t2, b1, b2, ↓enterK_eq e1, enterK_eq e1, e2, ↓enterK_eq e3, enterK_eq e3]
    · refine any_of (H1 := H3) (d_law_RowsReads _ _ _ _ _ _ H ?_)
      simp (maxSteps := 2000000) (disch := first | with_reducible rfl | assumption | omega | rfl | (simp only [go_sem]; first | done | omega)) only [go_sem, ↓reduceIte, reduceCtorEq, Nat.reduceEqDiff, Nat.reduceAdd, Nat.reduceSub, Nat.reduceMul, Nat.reduceDiv, Nat.reduceMod, Nat.reduceLeDiff, Nat.reduceLT, Nat.reduceBEq, Int.reduceEq, Int.reduceBEq, Int.reduceBNe, Int.reduceLT, Int.reduceLE, Int.reduceAdd, Int.reduceSub, Int.reduceNeg, Int.reduceToNat, Int.reducePow, Nat.reducePow, Int.reduceMul, Int.reduceDiv, s_law_RowsReads, hH1, f1, ↓enterK_eq sm, enterK_eq sm, bl_mk, hA, hB, hC, ↓enterK_eq m1, enterK_eq m1, ↓enterK_eq m2, enterK_eq m2, lw, lk, lr, hD', ↓cA, cA, hH2, sx, f2, a5, ↓enterK_eq j5, enterK_eq j5, a6, ↓enterK_eq j6, enterK_eq j6, ↓cat, cat, em, hL, eI, t1, t2, b1, b2, ↓enterK_eq e1, enterK_eq e1, e2, ↓enterK_eq e3, enterK_eq e3]
  · obtain ⟨J, hJ⟩ : ∃ J : Nat, (I : Int) - (x.length : Int) = J := ⟨I - x.length, by omega⟩
    obtain ⟨M, hM⟩ : ∃ M : Nat, min (y.length : Int) ((J : Int) + 1) = M := ⟨min y.length (J + 1), by omega⟩
    have t1 := slT_hi (s := mk y) (q := .i64) (j := J) (by rw [bl_mk]; omega)
    have t2 := slT_lo (s := mk y) (q := .i64) (i := M) (by rw [bl_mk]; omega)
    rw [bl_mk] at t1 t2
    have sb : ∀ ox oy, xbin Tryd.prog .sub T.int ox oy (.int .i64 (I : Int)) (.int .i64 (x.length : Int)) = some (.int .i64 (J : Int)) := fun ox oy => by rw [← hJ]; exact sub_i64 (by omega)
    have eJ : ∀ ox oy, xbin Tryd.prog .add T.int ox oy (.int .i64 (J : Int)) (.int .i64 1) = some (.int .i64 ((J : Int) + 1)) := fun ox oy => add_i64 (by omega)
    have b1 : ∀ ox oy, xbin Tryd.prog .add T.string ox oy (.string (mk (y.take J))) (.string (mk more)) = some (.string (mk (y.take J ++ more))) := fun ox oy => str_add' (by simp; omega)
    have b2 : ∀ ox oy, xbin Tryd.prog .add T.string ox oy (.string (mk (y.take J ++ more))) (.string (mk (y.drop M))) = some (.string (mk (y.take J ++ more ++ y.drop M))) := fun ox oy => str_add' (by simp; omega)
    have he := hend x (y.take J ++ more ++ y.drop M) H2 (by omega) (by simp; omega) s2
    generalize y.take J ++ more ++ y.drop M = z at b2 he
    generalize y.take J ++ more = z1 at b1 b2
    generalize y.take J = z2 at t1 b1
    generalize y.drop M = z3 at t2 b2
    rcases he with ⟨v, H3, e1, e2, e3⟩ | ⟨v, H3, e1, e2, e3⟩
    · refine any_of (H1 := H3) (d_law_RowsReads _ _ _ _ _ _ H ?_)
      simp (maxSteps := 2000000) (disch := first | with_reducible rfl | assumption | omega | rfl | (simp only [go_sem]; first | done | omega)) only [go_sem, ↓reduceIte, reduceCtorEq, Nat.reduceEqDiff, Nat.reduceAdd, Nat.reduceSub, Nat.reduceMul, Nat.reduceDiv, Nat.reduceMod, Nat.reduceLeDiff, Nat.reduceLT, Nat.reduceBEq, Int.reduceEq, Int.reduceBEq, Int.reduceBNe, Int.reduceLT, Int.reduceLE, Int.reduceAdd, Int.reduceSub, Int.reduceNeg, Int.reduceToNat, Int.reducePow, Nat.reducePow, Int.reduceMul, Int.reduceDiv, s_law_RowsReads, hH1, f1, ↓enterK_eq sm, enterK_eq sm, bl_mk, hA, hB, hC, ↓enterK_eq m1, enterK_eq m1, ↓enterK_eq m2, enterK_eq m2, lw, lk, lr, hD', ↓cA, cA, hH2, sx, f2, a5, ↓enterK_eq j5, enterK_eq j5, a6, ↓enterK_eq j6, enterK_eq j6, ↓cat, cat, em, hL, sb, eJ, hM, t1, t2, b1, b2, ↓enterK_eq e1, enterK_eq e1, e2, ↓enterK_eq e3, enterK_eq e3]
    · refine any_of (H1 := H3) (d_law_RowsReads _ _ _ _ _ _ H ?_)
      simp (maxSteps := 2000000) (disch := first | with_reducible rfl | assumption | omega | rfl | (simp only [go_sem]; first | done | omega)) only [go_sem, ↓reduceIte, reduceCtorEq, Nat.reduceEqDiff, Nat.reduceAdd, Nat.reduceSub, Nat.reduceMul, Nat.reduceDiv, Nat.reduceMod, Nat.reduceLeDiff, Nat.reduceLT, Nat.reduceBEq, Int.reduceEq, Int.reduceBEq, Int.reduceBNe, Int.reduceLT, Int.reduceLE, Int.reduceAdd, Int.reduceSub, Int.reduceNeg, Int.reduceToNat, Int.reducePow, Nat.reducePow, Int.reduceMul, Int.reduceDiv, s_law_RowsReads, hH1, f1, ↓enterK_eq sm, enterK_eq sm, bl_mk, hA, hB, hC, ↓enterK_eq m1, enterK_eq m1, ↓enterK_eq m2, enterK_eq m2, lw, lk, lr, hD', ↓cA, cA, hH2, sx, f2, a5, ↓enterK_eq j5, enterK_eq j5, a6, ↓enterK_eq j6, enterK_eq j6, ↓cat, cat, em, hL, sb, eJ, hM, t1, t2, b1, b2, ↓enterK_eq e1, enterK_eq e1, e2, ↓enterK_eq e3, enterK_eq e3]

theorem run_RowsReads (W : World) (v0 : Value) (a : Tb) (h0 : v0 = .agg ⟨ETb.enc a⟩) (hR : (∃ kl, KR (absHeap2 W) a.k.v kl) ∧ ∃ rl, KR (absHeap2 W) a.r.v rl)
    (v : Value) (l : List Cl) (r : RdS ECl T.api_Cell (absHeap2 W) v l) (hn : ∀ x, x ∈ l → NumOk x) (_ : l.length ≤ maxLen) (key : ByteArray) (_ : (bl key).length ≤ 140737488351232) (val : ByteArray) (_ : (bl val).length ≤ 140737488351232)
    (t : Int) (ht : (Lit.int .u8 t).wf = true) (more : ByteArray) (_ : (bl more).length ≤ 140737488351232) :
    ∃ k H', dCall Tryd.prog prims1 hints k F.law_RowsReads [v0, v, .string key, .string val, .int .u8 t, .string more] (absHeap2 W) = some (.bool true, H') := by
  subst h0
  obtain ⟨⟨kl, hk⟩, rl, hr⟩ := hR
  have ht' : 0 ≤ t ∧ t < 256 := by
    simp [Lit.wf, IntKind.min, IntKind.max, IntKind.signed, IntKind.bits] at ht
    omega
  obtain ⟨H', h⟩ := q_RowsReads a.n a.k.v a.r.v kl rl l v key val more t (absHeap2 W) (fun _ => Nat.zero_lt_one) hk hr r hn ht'
  obtain ⟨k, h⟩ := D_run h
  exact ⟨k, _, h⟩

end Go.Proofs.YtlmhioanjmhaiaaDoor

/-
  The law RowsReads: for every input it returns true, and its input reads as it did; and its card.
  Conditions: none. By an AI agent.
-/
namespace Go.Proofs.YtlmhioanjmhaiaaDoor.rowsReads
open Go Go.ChangeShapes Go.WideShapes Go.ChangeAt Go.RowKit Go.Shelf Go.Lib
open Go.ChangeMaps (open_string shut_string)
set_option linter.unusedVariables false
theorem own : ownKnob Tryd.prog.godebug = none := by kernel_rfl
theorem laidOut : laidOutB Tryd.prog = true := by kernel_rfl
theorem glob (W : World) (hsh : W.ShapedOpen Tryd.prog) : Eng.Glob W.heap.size W := fun g hg => by
  have hg : g = 0 := by simpa [Eng.globs] using hg
  subst hg
  obtain ⟨m, hm⟩ := Go.Proofs.cell_of_shapedOpen_int (zero := #[.int .i64 0]) (t := 3) hsh (of_decide_eq_true (by kernel_rfl)) (by kernel_rfl) rfl (by kernel_rfl) (by kernel_rfl) Tryd.underlying3
  obtain ⟨cs, e, fr, h1, _, _⟩ := Eng.cell_abs hm
  exact ⟨(Array.getElem?_eq_some_iff.1 h1).1, m, hm⟩
set_option maxRecDepth 100000 in
theorem lifted (os : Os) (started : os.Started) (H : Type) (enc : TypeId × Value → H) :
    ReturnsInHanded {} Tryd.checked os 3 .any (fun w args => (Rows.rowsReadsSpec.pre enc Tryd.prog Tryd.f3 [] false w args ∧ laidMetH Tryd.prog Rows.rowsReadsRow.laid w) ∧ sizedMet enc Tryd.prog Tryd.f3 (OpenSpec.ofChange Rows.rowsReadsSpec) false w args)
      (Rows.rowsReadsSpec.post enc Tryd.prog Tryd.f3 false true false false) := by
  refine Eng.wrapX (C := Tryd.checked) (X := fun w _ => laidMetH Tryd.prog Rows.rowsReadsRow.laid w) (fun _ _ _ hh h => h.of_heap hh) own started (by kernel_rfl) Tryd.func3
    (ChangeSpec.witness_shaped (enc := enc) (C := Tryd.checked) (os := os) (X := fun w _ => laidMetH Tryd.prog Rows.rowsReadsRow.laid w) false (World.laidAll Tryd.prog os Rows.rowsReadsRow.laid) #[.agg #[(.int .i64 0), (.slice none 0 0), (.slice none 0 0)], .slice none 0 0, .string ByteArray.empty, .string ByteArray.empty, .int .u8 0, .string ByteArray.empty] 8 (World.laidAll_os _ _ _)
      (World.shaped_of_ZipB (by kernel_rfl) (by kernel_rfl)) (by kernel_rfl) (by kernel_rfl) (by kernel_rfl)
      (by rw [MakeChecks.laidMetH_plain _ _ _ (by kernel_rfl)]; exact laidMet_laidAll _ (by kernel_rfl) (by kernel_rfl))) ?_
  intro W base args ds gs before hval0 hW hsz0 hsh
  have hsz : (DataW.weightsEach Tryd.prog (Tryd.f3.params.toList ++ Rows.rowsReadsSpec.plain.varTypes Tryd.prog) (ds ++ gs)).all (· ≤ reachBytes) = true := hsz0
  have hval : ∀ (j : Nat) t v, Tryd.f3.params[j]? = some t → args[j]? = some v → Value.okWide Tryd.prog W .any base t v := hval0
  have hW' := hW
  obtain ⟨p, q, hA0, hV, rfl, hfz, hnd⟩ := hW
  have hA : DataW.TrodAll enc Tryd.prog W 0 (fun _ => true) true Tryd.f3.params.toList args.toList ds p := hA0
  rw [Tryd.params3] at hA hval hsz
  obtain ⟨v0, vs0, d0, ds0, p0, q0, hargs, rfl, rfl, h0, r0⟩ := trodAll_cons hA
  obtain ⟨v1, vs1, d1, ds1, p1, q1, rfl, rfl, rfl, h1, r1⟩ := trodAll_cons r0
  obtain ⟨v2, vs2, d2, ds2, p2, q2, rfl, rfl, rfl, h2, r2⟩ := trodAll_cons r1
  obtain ⟨v3, vs3, d3, ds3, p3, q3, rfl, rfl, rfl, h3, r3⟩ := trodAll_cons r2
  obtain ⟨v4, vs4, d4, ds4, p4, q4, rfl, rfl, rfl, h4, r4⟩ := trodAll_cons r3
  obtain ⟨v5, vs5, d5, ds5, p5, q5, rfl, rfl, rfl, h5, r5⟩ := trodAll_cons r4
  obtain ⟨rfl, rfl, rfl⟩ := trodAll_nil r5
  obtain rfl : args = #[v0, v1, v2, v3, v4, v5] := by cases args; simp_all
  obtain ⟨rfl, rfl⟩ := trodVars_none hV
  have k0 := h0
  have lt0 : ∀ x ∈ p0, x.block < W.heap.size := by obtain ⟨m, hm⟩ := k0; exact DataW.trod_lt m _ _ _ hm
  obtain ⟨l0, rd0, all0⟩ := Eng.open_agg2 (t := 24) Tryd.underlying24 (by kernel_rfl) (fun cs n y hp h hl => decTb hp h hl) (hval 0 24 v0 rfl rfl) k0
  have k1 := h1
  have lt1 : ∀ x ∈ p1, x.block < W.heap.size := by obtain ⟨m, hm⟩ := k1; exact DataW.trod_lt m _ _ _ hm
  obtain ⟨l1, rd1, all1, len1⟩ := Eng.open_rd2 (t := 25) (e' := 44) Tryd.underlying25 (by kernel_rfl) (fun hp cs n y h hl => decClN hp h hl) (hval 1 25 v1 rfl rfl) k1
  obtain ⟨a2, rfl, rfl, rfl, y2⟩ := open_string Tryd.underlying9 (hval 2 9 v2 rfl rfl) h2
  have w2 : (Eng.bl a2).length ≤ 140737488351232 := sized_string hsz (j := 2) (t := 9) rfl rfl
  obtain ⟨a3, rfl, rfl, rfl, y3⟩ := open_string Tryd.underlying9 (hval 3 9 v3 rfl rfl) h3
  have w3 : (Eng.bl a3).length ≤ 140737488351232 := sized_string hsz (j := 3) (t := 9) rfl rfl
  obtain ⟨a4, rfl, rfl, rfl, w4⟩ := open_int Tryd.underlying5 (hval 4 5 v4 rfl rfl) h4
  obtain ⟨a5, rfl, rfl, rfl, y5⟩ := open_string Tryd.underlying9 (hval 5 9 v5 rfl rfl) h5
  have w5 : (Eng.bl a5).length ≤ 140737488351232 := sized_string hsz (j := 5) (t := 9) rfl rfl
  refine (Eng.law_calls2 (args := #[v0, v1, .string a2, .string a3, .int .u8 a4, .string a5]) prims1_ok mixed (glob W hsh) (run_RowsReads W (Eng.convA2 W.heap.size v0) l0 rd0 all0 (Eng.convA2 W.heap.size v1) l1 rd1 all1 len1 a2 w2 a3 w3 a4 w4 a5 w5)).mono fun e W' ⟨he, bel⟩ => ?_
  subst he
  exact ⟨_, rfl, _, _, _, [], _, [], hW', trodAll_mk1 (shut_bool Tryd.underlying4 _), (trodAll_cons_mk (Below.trod laidOut (by kernel_rfl) (of_decide_eq_true (by kernel_rfl)) k0 bel lt0) (trodAll_cons_mk (Below.trod laidOut (by kernel_rfl) (of_decide_eq_true (by kernel_rfl)) k1 bel lt1) (trodAll_cons_mk (shut_string Tryd.underlying9 y2) (trodAll_cons_mk (shut_string Tryd.underlying9 y3) (trodAll_cons_mk (shut_int Tryd.underlying5 w4) (trodAll_cons_mk (shut_string Tryd.underlying9 y5) trodAll_mk0)))))), rfl, bel.frame _, fun h => by cases h⟩

theorem over : Rows.rowsReadsRow.holds Tryd.pinned (OpenSpec.ofChange Rows.rowsReadsSpec) :=
  OpenClaim.holds_of_wide 3 Tryd.f3 rfl rfl rfl rfl rfl rfl rfl ⟨rfl, rfl, rfl, rfl, rfl⟩ rfl rfl rfl rfl rfl (by kernel_rfl) Tryd.func3 (by kernel_rfl)
    (of_decide_eq_true (by kernel_rfl)) (by unfold Func.isWrapper; first | (rw [if_pos (by decide +kernel)]; kernel_rfl) | (rw [if_neg (by decide +kernel)]; exact ⟨rfl, rfl⟩))
    (fun os started H enc _ => lifted os started H enc)
theorem proved : Rows.RowsReadsCardSaid :=
  Claim7.holds_tied_plain_at .later [] [.data, .pinned] true (true, "aaed328d676b259d80c0dea683c8657178ef62b17664fbaf17bcdc3b4d96b0a3") false over (fun _ h => by cases h) (by kernel_rfl) (fun _ h => by cases h) rowsReads_row_tie rfl ⟨rfl, rfl⟩ (by kernel_rfl) rfl
    (fun f fn hf hfn => by
      obtain rfl : f = 3 := Option.some.inj ((show Tryd.prog.funcNamed "ticketline/ticketlinelaw40.RowsReads" = some 3 by kernel_rfl).symm.trans hf) |>.symm
      obtain rfl : fn = Tryd.f3 := (Option.some.inj (Tryd.func3.symm.trans hfn)).symm
      exact ⟨by kernel_rfl, fun j t ht => by
        rw [Tryd.params3] at ht
        have hm : t ∈ [24, 25, 9, 9, 5, 9] := by simpa using Array.mem_of_getElem? ht
        have hall : ([24, 25, 9, 9, 5, 9].all fun u => !Tryd.prog.wantsStandIn u) = true := by kernel_rfl
        exact (show Tryd.prog.wantsStandIn t = false by simpa using List.all_eq_true.1 hall t hm)⟩)
    (by kernel_rfl)
#print axioms proved
end Go.Proofs.YtlmhioanjmhaiaaDoor.rowsReads
namespace Go.Proofs.YtlmhioanjmhaiaaDoor
/-- The card, under a short name, for the claim. -/
theorem rowsReads_card : Rows.RowsReadsCardSaid := rowsReads.proved
end Go.Proofs.YtlmhioanjmhaiaaDoor
