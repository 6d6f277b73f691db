/-
  17 texts in one (merge.py): Pb Pc Pd Pe Pf Pg Ph Pi Na ShRowsWrites DsRowsWrites Pj Pl Pm Pn Po Pp.
  Conditions: none. By an AI agent.
-/
import Derived.Test.YtlmhioanjmhaiaaDoorLawRowsHoldsQ1
import Derived.Test.YtlmhioanjmhaiaaDoorChecked
import Derived.KernelRfl

/-
  Chapter 40: number.
  Conditions: none. By an AI agent.
-/
set_option maxRecDepth 10000
set_option linter.unusedSimpArgs false
set_option linter.unusedVariables false
namespace Go.Proofs.YtlmhioanjmhaiaaDoor
open Go Eng

/-- The number that bytes mean, the highest first. -/
def numF (a : Nat) : List UInt8 → Nat
  | [] => a
  | c :: l => numF (a * 256 + c.toNat) l
def invL (i : Bool) (l : List UInt8) : List UInt8 := if i then l.map inv8 else l

theorem slT_lo {s : ByteArray} {q : IntKind} {i : Nat} (h : i ≤ (bl s).length) : slT (.string s) (some (.int q (i : Int))) none = some (.string (mk ((bl s).drop i))) := by
  show ((highOf (bl s).length (bl s).length none).bind fun h => (lowOf h (some (.int q (i : Int)))).map fun l => Value.string (mk (((bl s).take h).drop l))) = _
  show ((lowOf (bl s).length (some (.int q (i : Int)))).map fun l => Value.string (mk (((bl s).take (bl s).length).drop l))) = _
  rw [low_nat h, List.take_length]
  rfl

theorem shl_num {a : Nat} (h : a * 256 < 18446744073709551616) : ∀ ox oy, xbin Tryd.prog .shl T.uint64 ox oy (.int .u64 (a : Int)) (.int .u64 8) = some (.int .u64 ((a * 256 : Nat) : Int)) := fun ox oy => by
  have e := shlP (P := Tryd.prog) (t := T.uint64) (ox := ox) (oy := oy) (q := .u64) (q' := .u64) (a := (a : Int)) (b := 8) (by decide)
  rw [e, show ((a : Int) * 2 ^ (8 : Int).toNat) = ((a * 256 : Nat) : Int) by rw [Int.natCast_mul]; rfl, wrap_u64 ⟨by omega, by omega⟩]
theorem or_num {a c : Nat} (hc : c < 256) (h : a * 256 + c < 18446744073709551616) : ∀ ox oy, xbin Tryd.prog .or T.uint64 ox oy (.int .u64 ((a * 256 : Nat) : Int)) (.int .u64 (c : Int)) = some (.int .u64 ((a * 256 + c : Nat) : Int)) := fun ox oy => by
  have q1 : a * 256 < 2 ^ IntKind.u64.bits := by show _ < 18446744073709551616; omega
  have q2 : c < 2 ^ IntKind.u64.bits := by show _ < 18446744073709551616; omega
  rw [orU q1 q2, show a * 256 ||| c = a * 256 + c from or_add (k := 8) hc, wrap_u64 ⟨by omega, by omega⟩]
theorem x_u8_u64 (c : UInt8) (H : AHeap) : xconv Tryd.prog T.uint8 T.uint64 (.int .u8 (c.toNat : Int)) H = some (.int .u64 (c.toNat : Int), H) := by
  have h := c.toNat_lt
  refine (xconv_int (a := .u8) (b := .u64) (s := T.uint8) (t := T.uint64) Tryd.underlying5 Tryd.underlying42).trans ?_
  rw [wrap_u64 ⟨by omega, by omega⟩]

theorem l_number (s x : Value) (inv : Bool) (l : List UInt8) (v : Value) (H : AHeap) (hr : Rd EB H v l) (h8 : l.length ≤ 8) : ∀ (t : List UInt8) (i a : Nat), l.drop i = t → a < 256 ^ i →
    ∀ K : K, l_rows_number_0 s x (.bool inv) (.int .u64 (a : Int)) v (.int .i64 (l.length : Int)) (.int .i64 (i : Int)) H (blkK [0, 1, 9] 0 K) = K .normal [(0, s), (1, x), (9, .int .u64 ((numF a (invL inv t) : Nat) : Int))] H
  | [], i, a, hx, ha => fun K => by
    have h : l.length ≤ i := List.drop_eq_nil_iff.1 hx
    have hlt : ¬ (i : Int) < (l.length : Int) := by omega
    have e : numF a (invL inv []) = a := by cases inv <;> rfl
    rw [e, r_rows_number_0]
    simp (disch := first | with_reducible rfl | assumption | omega | rfl | (simp only [go_sem]; first | done | omega)) only [go_sem, ↓reduceIte, reduceCtorEq, Nat.reduceEqDiff, Nat.reduceAdd, Nat.reduceSub, Nat.reduceMul, Nat.reduceDiv, Nat.reduceMod, Nat.reduceLeDiff, Nat.reduceLT, Nat.reduceBEq, Int.reduceEq, Int.reduceBEq, Int.reduceBNe, Int.reduceLT, Int.reduceLE, Int.reduceAdd, Int.reduceSub, Int.reduceNeg, Int.reduceToNat, Int.reducePow, Nat.reducePow, Int.reduceMul, Int.reduceDiv, ↓s_rows_number_b0, hlt]
  | c :: t, i, a, hx, ha => fun K => by
    obtain ⟨h, hxa, hx'⟩ := drop_cons hx
    have hlt : (i : Int) < (l.length : Int) := by omega
    obtain ⟨b1, o1, ix, cl, _⟩ := hr.byte h
    rw [hxa] at cl
    have hp : 256 ^ (i + 1) ≤ 256 ^ 8 := Nat.pow_le_pow_right (by decide) (by omega)
    have hp8 : (256 : Nat) ^ 8 = 18446744073709551616 := by decide
    have hps : (256 : Nat) ^ (i + 1) = 256 ^ i * 256 := Nat.pow_succ ..
    obtain ⟨d, hd⟩ : ∃ d : UInt8, (if inv then inv8 c else c) = d := ⟨_, rfl⟩
    have hdl := d.toNat_lt
    have e : numF a (invL inv (c :: t)) = numF (a * 256 + d.toNat) (invL inv t) := by cases inv <;> (rw [← hd]; rfl)
    have sh := shl_num (a := a) (by omega)
    have orr := or_num (a := a) (c := d.toNat) (by omega) (by omega)
    have ih := l_number s x inv l v H hr h8 t (i + 1) (a * 256 + d.toNat) hx' (by omega) K
    rw [Int.natCast_add] at ih
    rw [e, r_rows_number_0]
    cases inv with
    | false =>
      have hd : c = d := hd
      subst hd
      simp (disch := first | with_reducible rfl | assumption | omega | rfl | (simp only [go_sem]; first | done | omega)) only [go_sem, ↓reduceIte, reduceCtorEq, Nat.reduceEqDiff, Nat.reduceAdd, Nat.reduceSub, Nat.reduceMul, Nat.reduceDiv, Nat.reduceMod, Nat.reduceLeDiff, Nat.reduceLT, Nat.reduceBEq, Int.reduceEq, Int.reduceBEq, Int.reduceBNe, Int.reduceLT, Int.reduceLE, Int.reduceAdd, Int.reduceSub, Int.reduceNeg, Int.reduceToNat, Int.reducePow, Nat.reducePow, Int.reduceMul, Int.reduceDiv, ↓s_rows_number_b0, hlt, ix, cl, sh, x_u8_u64, orr]
      exact ih
    | true =>
      have hd : inv8 c = d := hd
      have sub1 : ∀ ox oy, xbin Tryd.prog .sub T.uint8 ox oy (.int .u8 255) (.int .u8 (c.toNat : Int)) = some (.int .u8 (d.toNat : Int)) := fun ox oy => by rw [xbin_sub, wrapU8, ← hd, inv8_nat]
      simp (disch := first | with_reducible rfl | assumption | omega | rfl | (simp only [go_sem]; first | done | omega)) only [go_sem, ↓reduceIte, reduceCtorEq, Nat.reduceEqDiff, Nat.reduceAdd, Nat.reduceSub, Nat.reduceMul, Nat.reduceDiv, Nat.reduceMod, Nat.reduceLeDiff, Nat.reduceLT, Nat.reduceBEq, Int.reduceEq, Int.reduceBEq, Int.reduceBNe, Int.reduceLT, Int.reduceLE, Int.reduceAdd, Int.reduceSub, Int.reduceNeg, Int.reduceToNat, Int.reducePow, Nat.reducePow, Int.reduceMul, Int.reduceDiv, ↓s_rows_number_b0, hlt, ix, cl, sub1, sh, x_u8_u64, orr]
      exact ih

/-- What number answers. -/
def numR (s : List UInt8) (n : Nat) (inv : Bool) : Option (Nat × List UInt8) := if 8 < n ∨ s.length < n then none else some (numF 0 (invL inv (s.take n)), s.drop n)
def numV : Option (Nat × List UInt8) → Value
  | none => .tuple #[.int .u64 0, .string (mk []), .bool false]
  | some (n, r) => .tuple #[.int .u64 (n : Int), .string (mk r), .bool true]

theorem q_number (s : List UInt8) (n : Nat) (inv : Bool) (H : AHeap) : CC F.rows_number [.string (mk s), .int .i64 (n : Int), .bool inv] H = some (numV (numR s n inv), H) := by
  unfold numR
  by_cases h8 : 8 < (n : Int)
  · rw [if_pos (Or.inl (by omega))]
    apply pure_of _ (d_rows_number _ _ _ H) rfl
    rotate_left 2
    · simp (disch := first | with_reducible rfl | assumption | omega | rfl | (simp only [go_sem]; first | done | omega)) only [go_sem, ↓reduceIte, reduceCtorEq, Nat.reduceEqDiff, Nat.reduceAdd, Nat.reduceSub, Nat.reduceMul, Nat.reduceDiv, Nat.reduceMod, Nat.reduceLeDiff, Nat.reduceLT, Nat.reduceBEq, Int.reduceEq, Int.reduceBEq, Int.reduceBNe, Int.reduceLT, Int.reduceLE, Int.reduceAdd, Int.reduceSub, Int.reduceNeg, Int.reduceToNat, Int.reducePow, Nat.reducePow, Int.reduceMul, Int.reduceDiv, ↓s_rows_number, h8]
      rfl
    · (repeat (first | exact Fr.refl _ | refine Fr.push ?_ _ | refine Fr.set ?_ _ _ (by intro h; first | omega | (simp only [go_sem] at h; omega))))
  by_cases hl : (s.length : Int) < (n : Int)
  · rw [if_pos (Or.inr (by omega))]
    apply pure_of _ (d_rows_number _ _ _ H) rfl
    rotate_left 2
    · simp (disch := first | with_reducible rfl | assumption | omega | rfl | (simp only [go_sem]; first | done | omega)) only [go_sem, ↓reduceIte, reduceCtorEq, Nat.reduceEqDiff, Nat.reduceAdd, Nat.reduceSub, Nat.reduceMul, Nat.reduceDiv, Nat.reduceMod, Nat.reduceLeDiff, Nat.reduceLT, Nat.reduceBEq, Int.reduceEq, Int.reduceBEq, Int.reduceBNe, Int.reduceLT, Int.reduceLE, Int.reduceAdd, Int.reduceSub, Int.reduceNeg, Int.reduceToNat, Int.reducePow, Nat.reducePow, Int.reduceMul, Int.reduceDiv, ↓s_rows_number, h8, bl_mk, hl]
      rfl
    · (repeat (first | exact Fr.refl _ | refine Fr.push ?_ _ | refine Fr.set ?_ _ _ (by intro h; first | omega | (simp only [go_sem] at h; omega))))
  rw [if_neg (show ¬ (8 < n ∨ s.length < n) by omega)]
  have a1 := slT_hi (s := mk s) (q := .i64) (j := n) (by rw [bl_mk]; omega)
  have a2 := slT_lo (s := mk s) (q := .i64) (i := n) (by rw [bl_mk]; omega)
  rw [bl_mk] at a1 a2
  have cv := x_sb (s.take n) H
  obtain ⟨H1, hH1⟩ : ∃ H1, H.push (.cells (EB.cells (s.take n)) T.uint8 true) = H1 := ⟨_, rfl⟩
  have s1 : Still H H1 := by rw [← hH1]; exact (Fr.refl H).push _
  have f1 : H1.f H.n = .cells (EB.cells (s.take n)) T.uint8 true := by rw [← hH1]; exact push_f_eq rfl
  rw [hH1] at cv
  have hlen : (s.take n).length = n := by simp; omega
  have ow : Own EB H1 T.uint8 (.slice (some ⟨H.n, 0, none⟩) (s.take n).length (2 * (s.take n).length + 1)) (s.take n) :=
    .inr (.inr ⟨H.n, 0, (s.take n).length, EB.cells (s.take n), rfl, Nat.le_refl _, by rw [← hH1]; exact Nat.lt_succ_self _, f1, by rw [EB_cells]; simp [EB], by
      rw [List.drop_zero, List.take_of_length_le (by rw [EB_cells]; simp [EB])]⟩)
  have lo := l_number (.string (mk s)) (.int .i64 (n : Int)) inv (s.take n) _ H1 ow.rd (by omega) (s.take n) 0 0 rfl (by decide)
  have lv := ow.rd.lenS
  generalize Value.slice (some ⟨H.n, 0, none⟩) (s.take n).length (2 * (s.take n).length + 1) = v at cv lo lv
  rw [hlen] at lo lv
  have lo : ∀ K : K, l_rows_number_0 (.string (mk s)) (.int .i64 (n : Int)) (.bool inv) (.int .u64 0) v (.int .i64 (n : Int)) (.int .i64 0) H1 (blkK [0, 1, 9] 0 K) = K .normal [(0, .string (mk s)), (1, .int .i64 (n : Int)), (9, .int .u64 ((numF 0 (invL inv (s.take n)) : Nat) : Int))] H1 := lo
  apply pure_of _ (d_rows_number _ _ _ H) rfl
  rotate_left 2
  · simp (disch := first | with_reducible rfl | assumption | omega | rfl | (simp only [go_sem]; first | done | omega)) only [go_sem, ↓reduceIte, reduceCtorEq, Nat.reduceEqDiff, Nat.reduceAdd, Nat.reduceSub, Nat.reduceMul, Nat.reduceDiv, Nat.reduceMod, Nat.reduceLeDiff, Nat.reduceLT, Nat.reduceBEq, Int.reduceEq, Int.reduceBEq, Int.reduceBNe, Int.reduceLT, Int.reduceLE, Int.reduceAdd, Int.reduceSub, Int.reduceNeg, Int.reduceToNat, Int.reducePow, Nat.reducePow, Int.reduceMul, Int.reduceDiv, ↓s_rows_number, h8, bl_mk, hl, a1, cv, lv, lo, a2]
    rfl
  · exact s1

end Go.Proofs.YtlmhioanjmhaiaaDoor

/-
  Chapter 40: the end of a text, and its zero bytes.
  Conditions: none. By an AI agent.
-/
set_option maxRecDepth 10000
set_option linter.unusedSimpArgs false
set_option linter.unusedVariables false
namespace Go.Proofs.YtlmhioanjmhaiaaDoor
open Go Eng

theorem q_Index (s : ByteArray) (H : AHeap) (hs : (bl s).length ≤ 1000000) : CC F.strings_Index [.string s, .string (mk [0, 1])] H = some (.int .i64 (Lib.index (bl s) [0, 1]), H) := by
  refine D_prim (show prims1 F.strings_Index = some indexP by kernel_rfl) ?_
  have h1 : s.size < 4294967281 := by
    have e : s.size = (bl s).length := by cases s; rfl
    omega
  show (if s.size < 4294967281 then some (Value.int .i64 (Lib.index s.data.toList (mk [0, 1]).data.toList), H) else none) = _
  rw [if_pos h1]
  rfl

theorem q_ReplaceAll2 (s : ByteArray) (H : AHeap) (hs : (bl s).length ≤ 1000000) : CC F.strings_ReplaceAll [.string s, .string (mk [0, 255]), .string (mk [0])] H = some (.string (mk (Lib.replaceAll (bl s) [0, 255] [0])), H) := by
  refine D_prim (show prims1 F.strings_ReplaceAll = some replP by kernel_rfl) ?_
  have h1 : s.size < 4294967281 ∧ 1 ≤ (mk [0, 255]).size ∧ (mk [0]).size ≤ 100 := by
    have e : s.size = (bl s).length := by cases s; rfl
    exact ⟨by omega, by decide, by decide⟩
  show (if s.size < 4294967281 ∧ 1 ≤ (mk [0, 255]).size ∧ (mk [0]).size ≤ 100 then some (Value.string ⟨(Lib.replaceAll s.data.toList (mk [0, 255]).data.toList (mk [0]).data.toList).toArray⟩, H) else none) = _
  rw [if_pos h1]
  rfl

end Go.Proofs.YtlmhioanjmhaiaaDoor

/-
  Chapter 40: take.
  Conditions: none. By an AI agent.
-/
set_option maxRecDepth 10000
set_option linter.unusedSimpArgs false
set_option linter.unusedVariables false
namespace Go.Proofs.YtlmhioanjmhaiaaDoor
open Go Eng

/-- What take answers for a kind of numbers. -/
def tkU : Option (Nat × List UInt8) → Cl × List UInt8 × Bool
  | none => (⟨1, 0, 0, mk [], false⟩, [], false)
  | some (n, r) => (⟨1, n, 0, mk [], false⟩, r, true)
def tkV (x : Cl × List UInt8 × Bool) : Value := .tuple #[.agg ⟨x.1.l⟩, .string (mk x.2.1), .bool x.2.2]

theorem xload_cell (a : Value) (H : AHeap) : xload Tryd.prog T.api_Cell a H = ldN 5 H a := by
  have h1 : row? Tryd.prog T.api_Cell = some true := by kernel_rfl
  have h2 : Tryd.prog.cellsOf T.api_Cell = 5 := by kernel_rfl
  unfold xload
  rw [h1, h2]

theorem q_take_nil (k : Int) (H : AHeap) : CC F.rows_take [.string (mk []), .int .i64 k] H = some (tkV (⟨k, 0, 0, mk [], false⟩, [], false), H) := by
  obtain ⟨H1, hH1⟩ : ∃ H1, H.push (.cells [.int .i64 0, .int .u64 0, .int .i64 0, .string (mk []), .bool false] T.api_Cell true) = H1 := ⟨_, rfl⟩
  have s1 : Still H H1 := by rw [← hH1]; exact (Fr.refl H).push _
  have n1 : H1.n = H.n + 1 := by rw [← hH1]; rfl
  have f1 : H1.f H.n = .cells [.int .i64 0, .int .u64 0, .int .i64 0, .string (mk []), .bool false] T.api_Cell true := by rw [← hH1]; exact push_f_eq rfl
  obtain ⟨H2, hH2⟩ : ∃ H2, (H1.push (.cells [.int .i64 0, .int .u64 0, .int .i64 0, .string (mk []), .bool false] T.api_Cell true)).set H1.n (.cells [.int .i64 k, .int .u64 0, .int .i64 0, .string (mk []), .bool false] T.api_Cell true) = H2 := ⟨_, rfl⟩
  have s2 : Still H1 H2 := by rw [← hH2]; exact Fr.set ((Fr.refl H1).push _) _ _ (fun h => by omega)
  have f2 : H2.f H1.n = .cells [.int .i64 k, .int .u64 0, .int .i64 0, .string (mk []), .bool false] T.api_Cell true := by rw [← hH2]; exact set_f_eq
  have g2 : H2.f H.n = .cells [.int .i64 0, .int .u64 0, .int .i64 0, .string (mk []), .bool false] T.api_Cell true := by rw [s2.f (by omega) fun h => h]; exact f1
  obtain ⟨H3, hH3⟩ : ∃ H3, H2.set H.n (.cells [.int .i64 k, .int .u64 0, .int .i64 0, .string (mk []), .bool false] T.api_Cell true) = H3 := ⟨_, rfl⟩
  have s3 : Still H H3 := by rw [← hH3]; exact Fr.set (s1.trans s2) _ _ (fun h => by omega)
  have f3 : H3.f H.n = .cells [.int .i64 k, .int .u64 0, .int .i64 0, .string (mk []), .bool false] T.api_Cell true := by rw [← hH3]; exact set_f_eq
  apply pure_of _ (d_rows_take _ _ H) rfl
  rotate_left 2
  · simp (disch := first | with_reducible rfl | assumption | omega | rfl | (simp only [go_sem]; first | done | omega)) only [go_sem, ↓reduceIte, reduceCtorEq, Nat.reduceEqDiff, Nat.reduceAdd, Nat.reduceSub, Nat.reduceMul, Nat.reduceDiv, Nat.reduceMod, Nat.reduceLeDiff, Nat.reduceLT, Nat.reduceBEq, Int.reduceEq, Int.reduceBEq, Int.reduceBNe, Int.reduceLT, Int.reduceLE, Int.reduceAdd, Int.reduceSub, Int.reduceNeg, Int.reduceToNat, Int.reducePow, Nat.reducePow, Int.reduceMul, Int.reduceDiv, ↓s_rows_take, hH1, hH2, f2, g2, hH3, f3, xload_cell]
    rfl
  · exact s3

theorem q_take_bool (c : UInt8) (s : List UInt8) (H : AHeap) : CC F.rows_take [.string (mk (c :: s)), .int .i64 4] H = some (tkV (⟨4, 0, 0, mk [], decide ((c.toNat : Int) = 1)⟩, s, true), H) := by
  obtain ⟨H1, hH1⟩ : ∃ H1, H.push (.cells [.int .i64 0, .int .u64 0, .int .i64 0, .string (mk []), .bool false] T.api_Cell true) = H1 := ⟨_, rfl⟩
  have s1 : Still H H1 := by rw [← hH1]; exact (Fr.refl H).push _
  have n1 : H1.n = H.n + 1 := by rw [← hH1]; rfl
  have f1 : H1.f H.n = .cells [.int .i64 0, .int .u64 0, .int .i64 0, .string (mk []), .bool false] T.api_Cell true := by rw [← hH1]; exact push_f_eq rfl
  obtain ⟨H2, hH2⟩ : ∃ H2, (H1.push (.cells [.int .i64 0, .int .u64 0, .int .i64 0, .string (mk []), .bool false] T.api_Cell true)).set H1.n (.cells [.int .i64 4, .int .u64 0, .int .i64 0, .string (mk []), .bool false] T.api_Cell true) = H2 := ⟨_, rfl⟩
  have s2 : Still H1 H2 := by rw [← hH2]; exact Fr.set ((Fr.refl H1).push _) _ _ (fun h => by omega)
  have f2 : H2.f H1.n = .cells [.int .i64 4, .int .u64 0, .int .i64 0, .string (mk []), .bool false] T.api_Cell true := by rw [← hH2]; exact set_f_eq
  obtain ⟨d, hd⟩ : ∃ d, decide ((c.toNat : Int) = 1) = d := ⟨_, rfl⟩
  obtain ⟨H3, hH3⟩ : ∃ H3, H2.set H1.n (.cells [.int .i64 4, .int .u64 0, .int .i64 0, .string (mk []), .bool d] T.api_Cell true) = H3 := ⟨_, rfl⟩
  have s3 : Still H1 H3 := by rw [← hH3]; exact Fr.set s2 _ _ (fun h => by omega)
  have f3 : H3.f H1.n = .cells [.int .i64 4, .int .u64 0, .int .i64 0, .string (mk []), .bool d] T.api_Cell true := by rw [← hH3]; exact set_f_eq
  have g3 : H3.f H.n = .cells [.int .i64 0, .int .u64 0, .int .i64 0, .string (mk []), .bool false] T.api_Cell true := by rw [s3.f (by omega) fun h => h]; exact f1
  obtain ⟨H4, hH4⟩ : ∃ H4, H3.set H.n (.cells [.int .i64 4, .int .u64 0, .int .i64 0, .string (mk []), .bool d] T.api_Cell true) = H4 := ⟨_, rfl⟩
  have s4 : Still H H4 := by rw [← hH4]; exact Fr.set (s1.trans s3) _ _ (fun h => by omega)
  have f4 : H4.f H.n = .cells [.int .i64 4, .int .u64 0, .int .i64 0, .string (mk []), .bool d] T.api_Cell true := by rw [← hH4]; exact set_f_eq
  have a1 := slT_lo (s := mk (c :: s)) (q := .i64) (i := 1) (by rw [bl_mk]; simp)
  rw [bl_mk] at a1
  have a1 : slT (.string (mk (c :: s))) (some (.int .i64 1)) none = some (.string (mk s)) := a1
  have ix := xix (s := mk (c :: s)) (i := 0) (by rw [bl_mk]; simp)
  have ix : xindex Tryd.prog T.string (.string (mk (c :: s))) (.int .i64 0) = some (.int .u8 (c.toNat : Int)) := ix
  have hc := c.toNat_lt
  have cv : ∀ H, xconv Tryd.prog T.uint8 T.int (.int .u8 (c.toNat : Int)) H = some (.int .i64 (c.toNat : Int), H) := fun H => by
    refine (xconv_int (a := .u8) (b := .i64) (s := T.uint8) (t := T.int) Tryd.underlying5 Tryd.underlying3).trans ?_
    rw [wrap_i64 ⟨by omega, by omega⟩]
  generalize (c.toNat : Int) = z at *
  apply pure_of _ (d_rows_take _ _ H) rfl
  rotate_left 2
  · simp (disch := first | with_reducible rfl | assumption | omega | rfl | (simp only [go_sem]; first | done | omega)) only [go_sem, ↓reduceIte, reduceCtorEq, Nat.reduceEqDiff, Nat.reduceAdd, Nat.reduceSub, Nat.reduceMul, Nat.reduceDiv, Nat.reduceMod, Nat.reduceLeDiff, Nat.reduceLT, Nat.reduceBEq, Int.reduceEq, Int.reduceBEq, Int.reduceBNe, Int.reduceLT, Int.reduceLE, Int.reduceAdd, Int.reduceSub, Int.reduceNeg, Int.reduceToNat, Int.reducePow, Nat.reducePow, Int.reduceMul, Int.reduceDiv, ↓s_rows_take, hH1, hH2, f2, ix, cv, hd, hH3, f3, a1, g3, hH4, f4, xload_cell]
    rfl
  · exact s4

theorem q_take_uint (c : UInt8) (s : List UInt8) (H : AHeap) : CC F.rows_take [.string (mk (c :: s)), .int .i64 1] H = some (tkV (tkU (numR s c.toNat false)), H) := by
  obtain ⟨H1, hH1⟩ : ∃ H1, H.push (.cells [.int .i64 0, .int .u64 0, .int .i64 0, .string (mk []), .bool false] T.api_Cell true) = H1 := ⟨_, rfl⟩
  have s1 : Still H H1 := by rw [← hH1]; exact (Fr.refl H).push _
  have n1 : H1.n = H.n + 1 := by rw [← hH1]; rfl
  have f1 : H1.f H.n = .cells [.int .i64 0, .int .u64 0, .int .i64 0, .string (mk []), .bool false] T.api_Cell true := by rw [← hH1]; exact push_f_eq rfl
  obtain ⟨H2, hH2⟩ : ∃ H2, (H1.push (.cells [.int .i64 0, .int .u64 0, .int .i64 0, .string (mk []), .bool false] T.api_Cell true)).set H1.n (.cells [.int .i64 1, .int .u64 0, .int .i64 0, .string (mk []), .bool false] T.api_Cell true) = H2 := ⟨_, rfl⟩
  have s2 : Still H1 H2 := by rw [← hH2]; exact Fr.set ((Fr.refl H1).push _) _ _ (fun h => by omega)
  have f2 : H2.f H1.n = .cells [.int .i64 1, .int .u64 0, .int .i64 0, .string (mk []), .bool false] T.api_Cell true := by rw [← hH2]; exact set_f_eq
  have m := q_number s c.toNat false H2
  obtain ⟨u, r, ok, he, hv⟩ : ∃ (u : Nat) (r : List UInt8) (ok : Bool), tkU (numR s c.toNat false) = (⟨1, u, 0, mk [], false⟩, r, ok) ∧ numV (numR s c.toNat false) = .tuple #[.int .u64 (u : Int), .string (mk r), .bool ok] := by
    cases numR s c.toNat false with
    | none => exact ⟨0, [], false, rfl, rfl⟩
    | some p => exact ⟨p.1, p.2, true, rfl, rfl⟩
  rw [hv] at m
  rw [he]
  obtain ⟨H3, hH3⟩ : ∃ H3, H2.set H1.n (.cells [.int .i64 1, .int .u64 (u : Int), .int .i64 0, .string (mk []), .bool false] T.api_Cell true) = H3 := ⟨_, rfl⟩
  have s3 : Still H1 H3 := by rw [← hH3]; exact Fr.set s2 _ _ (fun h => by omega)
  have f3 : H3.f H1.n = .cells [.int .i64 1, .int .u64 (u : Int), .int .i64 0, .string (mk []), .bool false] T.api_Cell true := by rw [← hH3]; exact set_f_eq
  have g3 : H3.f H.n = .cells [.int .i64 0, .int .u64 0, .int .i64 0, .string (mk []), .bool false] T.api_Cell true := by rw [s3.f (by omega) fun h => h]; exact f1
  obtain ⟨H4, hH4⟩ : ∃ H4, H3.set H.n (.cells [.int .i64 1, .int .u64 (u : Int), .int .i64 0, .string (mk []), .bool false] T.api_Cell true) = H4 := ⟨_, rfl⟩
  have s4 : Still H H4 := by rw [← hH4]; exact Fr.set (s1.trans s3) _ _ (fun h => by omega)
  have f4 : H4.f H.n = .cells [.int .i64 1, .int .u64 (u : Int), .int .i64 0, .string (mk []), .bool false] T.api_Cell true := by rw [← hH4]; exact set_f_eq
  have a1 := slT_lo (s := mk (c :: s)) (q := .i64) (i := 1) (by rw [bl_mk]; simp)
  rw [bl_mk] at a1
  have a1 : slT (.string (mk (c :: s))) (some (.int .i64 1)) none = some (.string (mk s)) := a1
  have ix := xix (s := mk (c :: s)) (i := 0) (by rw [bl_mk]; simp)
  have ix : xindex Tryd.prog T.string (.string (mk (c :: s))) (.int .i64 0) = some (.int .u8 (c.toNat : Int)) := ix
  have hc := c.toNat_lt
  have cv : ∀ H, xconv Tryd.prog T.uint8 T.int (.int .u8 (c.toNat : Int)) H = some (.int .i64 (c.toNat : Int), H) := fun H => by
    refine (xconv_int (a := .u8) (b := .i64) (s := T.uint8) (t := T.int) Tryd.underlying5 Tryd.underlying3).trans ?_
    rw [wrap_i64 ⟨by omega, by omega⟩]
  generalize (c.toNat : Int) = z at *
  apply pure_of _ (d_rows_take _ _ H) rfl
  rotate_left 2
  · simp (disch := first | with_reducible rfl | assumption | omega | rfl | (simp only [go_sem]; first | done | omega)) only [go_sem, ↓reduceIte, reduceCtorEq, Nat.reduceEqDiff, Nat.reduceAdd, Nat.reduceSub, Nat.reduceMul, Nat.reduceDiv, Nat.reduceMod, Nat.reduceLeDiff, Nat.reduceLT, Nat.reduceBEq, Int.reduceEq, Int.reduceBEq, Int.reduceBNe, Int.reduceLT, Int.reduceLE, Int.reduceAdd, Int.reduceSub, Int.reduceNeg, Int.reduceToNat, Int.reducePow, Nat.reducePow, Int.reduceMul, Int.reduceDiv, ↓s_rows_take, hH1, hH2, f2, ix, cv, a1, enterK_eq m, hH3, f3, g3, hH4, f4, xload_cell]
    rfl
  · exact s4

/-- What take answers for a kind of numbers with a sign, at or above zero. -/
def tkP : Option (Nat × List UInt8) → Cl × List UInt8 × Bool
  | none => (⟨2, 0, 0, mk [], false⟩, [], false)
  | some (n, r) => (⟨2, 0, IntKind.wrap .i64 (n : Int), mk [], false⟩, r, true)
theorem q_take_pos (c : UInt8) (s : List UInt8) (H : AHeap) (h8 : 128 ≤ c.toNat) : CC F.rows_take [.string (mk (c :: s)), .int .i64 2] H = some (tkV (tkP (numR s (c.toNat - 128) false)), H) := by
  obtain ⟨H1, hH1⟩ : ∃ H1, H.push (.cells [.int .i64 0, .int .u64 0, .int .i64 0, .string (mk []), .bool false] T.api_Cell true) = H1 := ⟨_, rfl⟩
  have s1 : Still H H1 := by rw [← hH1]; exact (Fr.refl H).push _
  have n1 : H1.n = H.n + 1 := by rw [← hH1]; rfl
  have f1 : H1.f H.n = .cells [.int .i64 0, .int .u64 0, .int .i64 0, .string (mk []), .bool false] T.api_Cell true := by rw [← hH1]; exact push_f_eq rfl
  obtain ⟨H2, hH2⟩ : ∃ H2, (H1.push (.cells [.int .i64 0, .int .u64 0, .int .i64 0, .string (mk []), .bool false] T.api_Cell true)).set H1.n (.cells [.int .i64 2, .int .u64 0, .int .i64 0, .string (mk []), .bool false] T.api_Cell true) = H2 := ⟨_, rfl⟩
  have s2 : Still H1 H2 := by rw [← hH2]; exact Fr.set ((Fr.refl H1).push _) _ _ (fun h => by omega)
  have f2 : H2.f H1.n = .cells [.int .i64 2, .int .u64 0, .int .i64 0, .string (mk []), .bool false] T.api_Cell true := by rw [← hH2]; exact set_f_eq
  have m := q_number s (c.toNat - 128) false H2
  obtain ⟨u, i, r, ok, he, hi, hv⟩ : ∃ (u : Nat) (i : Int) (r : List UInt8) (ok : Bool), tkP (numR s (c.toNat - 128) false) = (⟨2, 0, i, mk [], false⟩, r, ok) ∧ IntKind.wrap .i64 (u : Int) = i ∧ numV (numR s (c.toNat - 128) false) = .tuple #[.int .u64 (u : Int), .string (mk r), .bool ok] := by
    cases numR s (c.toNat - 128) false with
    | none => exact ⟨0, 0, [], false, rfl, by decide, rfl⟩
    | some p => exact ⟨p.1, _, p.2, true, rfl, rfl, rfl⟩
  rw [hv] at m
  rw [he]
  obtain ⟨H3, hH3⟩ : ∃ H3, H2.set H1.n (.cells [.int .i64 2, .int .u64 0, .int .i64 i, .string (mk []), .bool false] T.api_Cell true) = H3 := ⟨_, rfl⟩
  have s3 : Still H1 H3 := by rw [← hH3]; exact Fr.set s2 _ _ (fun h => by omega)
  have f3 : H3.f H1.n = .cells [.int .i64 2, .int .u64 0, .int .i64 i, .string (mk []), .bool false] T.api_Cell true := by rw [← hH3]; exact set_f_eq
  have g3 : H3.f H.n = .cells [.int .i64 0, .int .u64 0, .int .i64 0, .string (mk []), .bool false] T.api_Cell true := by rw [s3.f (by omega) fun h => h]; exact f1
  obtain ⟨H4, hH4⟩ : ∃ H4, H3.set H.n (.cells [.int .i64 2, .int .u64 0, .int .i64 i, .string (mk []), .bool false] T.api_Cell true) = H4 := ⟨_, rfl⟩
  have s4 : Still H H4 := by rw [← hH4]; exact Fr.set (s1.trans s3) _ _ (fun h => by omega)
  have f4 : H4.f H.n = .cells [.int .i64 2, .int .u64 0, .int .i64 i, .string (mk []), .bool false] T.api_Cell true := by rw [← hH4]; exact set_f_eq
  have a1 := slT_lo (s := mk (c :: s)) (q := .i64) (i := 1) (by rw [bl_mk]; simp)
  rw [bl_mk] at a1
  have a1 : slT (.string (mk (c :: s))) (some (.int .i64 1)) none = some (.string (mk s)) := a1
  have ix := xix (s := mk (c :: s)) (i := 0) (by rw [bl_mk]; simp)
  have ix : xindex Tryd.prog T.string (.string (mk (c :: s))) (.int .i64 0) = some (.int .u8 (c.toNat : Int)) := ix
  have hc := c.toNat_lt
  have cv : ∀ H, xconv Tryd.prog T.uint8 T.int (.int .u8 (c.toNat : Int)) H = some (.int .i64 (c.toNat : Int), H) := fun H => by
    refine (xconv_int (a := .u8) (b := .i64) (s := T.uint8) (t := T.int) Tryd.underlying5 Tryd.underlying3).trans ?_
    rw [wrap_i64 ⟨by omega, by omega⟩]
  have hge : 128 ≤ (c.toNat : Int) := by omega
  have sb : ∀ ox oy, xbin Tryd.prog .sub T.int ox oy (.int .i64 (c.toNat : Int)) (.int .i64 128) = some (.int .i64 ((c.toNat - 128 : Nat) : Int)) := fun ox oy => by
    rw [show ((c.toNat - 128 : Nat) : Int) = (c.toNat : Int) - 128 by omega]; exact sub_i64 (by omega)
  have cu : ∀ H, xconv Tryd.prog T.uint64 T.int (.int .u64 (u : Int)) H = some (.int .i64 i, H) := fun H => by
    refine (xconv_int (a := .u64) (b := .i64) (s := T.uint64) (t := T.int) Tryd.underlying42 Tryd.underlying3).trans ?_
    rw [hi]
  generalize ((c.toNat - 128 : Nat) : Int) = y at *
  generalize (c.toNat : Int) = z at *
  apply pure_of _ (d_rows_take _ _ H) rfl
  rotate_left 2
  · simp (disch := first | with_reducible rfl | assumption | omega | rfl | (simp only [go_sem]; first | done | omega)) only [go_sem, ↓reduceIte, reduceCtorEq, Nat.reduceEqDiff, Nat.reduceAdd, Nat.reduceSub, Nat.reduceMul, Nat.reduceDiv, Nat.reduceMod, Nat.reduceLeDiff, Nat.reduceLT, Nat.reduceBEq, Int.reduceEq, Int.reduceBEq, Int.reduceBNe, Int.reduceLT, Int.reduceLE, Int.reduceAdd, Int.reduceSub, Int.reduceNeg, Int.reduceToNat, Int.reducePow, Nat.reducePow, Int.reduceMul, Int.reduceDiv, ↓s_rows_take, hH1, hH2, f2, ix, cv, hge, a1, sb, enterK_eq m, cu, hH3, f3, g3, hH4, f4, xload_cell]
    rfl
  · exact s4

/-- What take answers for a kind of numbers with a sign, below zero. -/
def tkN : Option (Nat × List UInt8) → Cl × List UInt8 × Bool
  | none => (⟨2, 0, -1, mk [], false⟩, [], false)
  | some (n, r) => (⟨2, 0, IntKind.wrap .i64 (IntKind.wrap .i64 (-(IntKind.wrap .i64 (n : Int))) - 1), mk [], false⟩, r, true)
theorem q_take_neg (c : UInt8) (s : List UInt8) (H : AHeap) (h8 : c.toNat < 128) : CC F.rows_take [.string (mk (c :: s)), .int .i64 2] H = some (tkV (tkN (numR s (127 - c.toNat) true)), H) := by
  obtain ⟨H1, hH1⟩ : ∃ H1, H.push (.cells [.int .i64 0, .int .u64 0, .int .i64 0, .string (mk []), .bool false] T.api_Cell true) = H1 := ⟨_, rfl⟩
  have s1 : Still H H1 := by rw [← hH1]; exact (Fr.refl H).push _
  have n1 : H1.n = H.n + 1 := by rw [← hH1]; rfl
  have f1 : H1.f H.n = .cells [.int .i64 0, .int .u64 0, .int .i64 0, .string (mk []), .bool false] T.api_Cell true := by rw [← hH1]; exact push_f_eq rfl
  obtain ⟨H2, hH2⟩ : ∃ H2, (H1.push (.cells [.int .i64 0, .int .u64 0, .int .i64 0, .string (mk []), .bool false] T.api_Cell true)).set H1.n (.cells [.int .i64 2, .int .u64 0, .int .i64 0, .string (mk []), .bool false] T.api_Cell true) = H2 := ⟨_, rfl⟩
  have s2 : Still H1 H2 := by rw [← hH2]; exact Fr.set ((Fr.refl H1).push _) _ _ (fun h => by omega)
  have f2 : H2.f H1.n = .cells [.int .i64 2, .int .u64 0, .int .i64 0, .string (mk []), .bool false] T.api_Cell true := by rw [← hH2]; exact set_f_eq
  have m := q_number s (127 - c.toNat) true H2
  obtain ⟨u, i, r, ok, he, hi, hv⟩ : ∃ (u : Nat) (i : Int) (r : List UInt8) (ok : Bool), tkN (numR s (127 - c.toNat) true) = (⟨2, 0, i, mk [], false⟩, r, ok) ∧ IntKind.wrap .i64 (IntKind.wrap .i64 (-(IntKind.wrap .i64 (u : Int))) - 1) = i ∧ numV (numR s (127 - c.toNat) true) = .tuple #[.int .u64 (u : Int), .string (mk r), .bool ok] := by
    cases numR s (127 - c.toNat) true with
    | none => exact ⟨0, -1, [], false, rfl, by decide, rfl⟩
    | some p => exact ⟨p.1, _, p.2, true, rfl, rfl, rfl⟩
  rw [hv] at m
  rw [he]
  obtain ⟨H3, hH3⟩ : ∃ H3, H2.set H1.n (.cells [.int .i64 2, .int .u64 0, .int .i64 i, .string (mk []), .bool false] T.api_Cell true) = H3 := ⟨_, rfl⟩
  have s3 : Still H1 H3 := by rw [← hH3]; exact Fr.set s2 _ _ (fun h => by omega)
  have f3 : H3.f H1.n = .cells [.int .i64 2, .int .u64 0, .int .i64 i, .string (mk []), .bool false] T.api_Cell true := by rw [← hH3]; exact set_f_eq
  have g3 : H3.f H.n = .cells [.int .i64 0, .int .u64 0, .int .i64 0, .string (mk []), .bool false] T.api_Cell true := by rw [s3.f (by omega) fun h => h]; exact f1
  obtain ⟨H4, hH4⟩ : ∃ H4, H3.set H.n (.cells [.int .i64 2, .int .u64 0, .int .i64 i, .string (mk []), .bool false] T.api_Cell true) = H4 := ⟨_, rfl⟩
  have s4 : Still H H4 := by rw [← hH4]; exact Fr.set (s1.trans s3) _ _ (fun h => by omega)
  have f4 : H4.f H.n = .cells [.int .i64 2, .int .u64 0, .int .i64 i, .string (mk []), .bool false] T.api_Cell true := by rw [← hH4]; exact set_f_eq
  have a1 := slT_lo (s := mk (c :: s)) (q := .i64) (i := 1) (by rw [bl_mk]; simp)
  rw [bl_mk] at a1
  have a1 : slT (.string (mk (c :: s))) (some (.int .i64 1)) none = some (.string (mk s)) := a1
  have ix := xix (s := mk (c :: s)) (i := 0) (by rw [bl_mk]; simp)
  have ix : xindex Tryd.prog T.string (.string (mk (c :: s))) (.int .i64 0) = some (.int .u8 (c.toNat : Int)) := ix
  have hc := c.toNat_lt
  have cv : ∀ H, xconv Tryd.prog T.uint8 T.int (.int .u8 (c.toNat : Int)) H = some (.int .i64 (c.toNat : Int), H) := fun H => by
    refine (xconv_int (a := .u8) (b := .i64) (s := T.uint8) (t := T.int) Tryd.underlying5 Tryd.underlying3).trans ?_
    rw [wrap_i64 ⟨by omega, by omega⟩]
  have hge : ¬ 128 ≤ (c.toNat : Int) := by omega
  have sb : ∀ ox oy, xbin Tryd.prog .sub T.int ox oy (.int .i64 127) (.int .i64 (c.toNat : Int)) = some (.int .i64 ((127 - c.toNat : Nat) : Int)) := fun ox oy => by
    rw [show ((127 - c.toNat : Nat) : Int) = 127 - (c.toNat : Int) by omega]; exact sub_i64 (by omega)
  obtain ⟨i0, hi0⟩ : ∃ i0, IntKind.wrap .i64 (u : Int) = i0 := ⟨_, rfl⟩
  rw [hi0] at hi
  obtain ⟨i1, hi1⟩ : ∃ i1, IntKind.wrap .i64 (-i0) = i1 := ⟨_, rfl⟩
  rw [hi1] at hi
  have cu : ∀ H, xconv Tryd.prog T.uint64 T.int (.int .u64 (u : Int)) H = some (.int .i64 i0, H) := fun H => by
    refine (xconv_int (a := .u64) (b := .i64) (s := T.uint64) (t := T.int) Tryd.underlying42 Tryd.underlying3).trans ?_
    rw [hi0]
  have ng : xun Tryd.prog .neg (.int .i64 i0) = some (.int .i64 i1) := by
    have : xun Tryd.prog .neg (.int .i64 i0) = some (.int .i64 (IntKind.wrap .i64 (-i0))) := by
      simp [xun, gr, pvg, pv, Op.unary, Op.intArith, Bind.bind, Sem.bind, Pure.pure]
    rw [this, hi1]
  have sv : ∀ ox oy, xbin Tryd.prog .sub T.int ox oy (.int .i64 i1) (.int .i64 1) = some (.int .i64 i) := fun ox oy => by rw [xbin_sub, hi]
  generalize ((127 - c.toNat : Nat) : Int) = y at *
  generalize (c.toNat : Int) = z at *
  apply pure_of _ (d_rows_take _ _ H) rfl
  rotate_left 2
  · simp (disch := first | with_reducible rfl | assumption | omega | rfl | (simp only [go_sem]; first | done | omega)) only [go_sem, ↓reduceIte, reduceCtorEq, Nat.reduceEqDiff, Nat.reduceAdd, Nat.reduceSub, Nat.reduceMul, Nat.reduceDiv, Nat.reduceMod, Nat.reduceLeDiff, Nat.reduceLT, Nat.reduceBEq, Int.reduceEq, Int.reduceBEq, Int.reduceBNe, Int.reduceLT, Int.reduceLE, Int.reduceAdd, Int.reduceSub, Int.reduceNeg, Int.reduceToNat, Int.reducePow, Nat.reducePow, Int.reduceMul, Int.reduceDiv, ↓s_rows_take, hH1, hH2, f2, ix, cv, hge, a1, sb, enterK_eq m, cu, ng, sv, hH3, f3, g3, hH4, f4, xload_cell]
    rfl
  · exact s4

end Go.Proofs.YtlmhioanjmhaiaaDoor

/-
  Chapter 40: take, of a text; take, all together.
  Conditions: none. By an AI agent.
-/
set_option maxRecDepth 10000
set_option linter.unusedSimpArgs false
set_option linter.unusedVariables false
namespace Go.Proofs.YtlmhioanjmhaiaaDoor
open Go Eng

/-- What take answers for texts. -/
def tkT (s : List UInt8) : Cl × List UInt8 × Bool :=
  if Lib.index s [0, 1] < 0 then (⟨3, 0, 0, mk [], false⟩, [], false)
  else (⟨3, 0, 0, mk (Lib.replaceAll (s.take (Lib.index s [0, 1]).toNat) [0, 255] [0]), false⟩, s.drop ((Lib.index s [0, 1]).toNat + 2), true)

set_option maxHeartbeats 1000000 in
theorem q_take_text (c : UInt8) (s : List UInt8) (H : AHeap) (hl : (c :: s).length ≤ 1000000) : CC F.rows_take [.string (mk (c :: s)), .int .i64 3] H = some (tkV (tkT (c :: s)), H) := by
  obtain ⟨H1, hH1⟩ : ∃ H1, H.push (.cells [.int .i64 0, .int .u64 0, .int .i64 0, .string (mk []), .bool false] T.api_Cell true) = H1 := ⟨_, rfl⟩
  have s1 : Still H H1 := by rw [← hH1]; exact (Fr.refl H).push _
  have n1 : H1.n = H.n + 1 := by rw [← hH1]; rfl
  have f1 : H1.f H.n = .cells [.int .i64 0, .int .u64 0, .int .i64 0, .string (mk []), .bool false] T.api_Cell true := by rw [← hH1]; exact push_f_eq rfl
  obtain ⟨H2, hH2⟩ : ∃ H2, (H1.push (.cells [.int .i64 0, .int .u64 0, .int .i64 0, .string (mk []), .bool false] T.api_Cell true)).set H1.n (.cells [.int .i64 3, .int .u64 0, .int .i64 0, .string (mk []), .bool false] T.api_Cell true) = H2 := ⟨_, rfl⟩
  have s2 : Still H1 H2 := by rw [← hH2]; exact Fr.set ((Fr.refl H1).push _) _ _ (fun h => by omega)
  have f2 : H2.f H1.n = .cells [.int .i64 3, .int .u64 0, .int .i64 0, .string (mk []), .bool false] T.api_Cell true := by rw [← hH2]; exact set_f_eq
  have g2 : H2.f H.n = .cells [.int .i64 0, .int .u64 0, .int .i64 0, .string (mk []), .bool false] T.api_Cell true := by rw [s2.f (by omega) fun h => h]; exact f1
  have ix := xix (s := mk (c :: s)) (i := 0) (by rw [bl_mk]; simp)
  have ix : xindex Tryd.prog T.string (.string (mk (c :: s))) (.int .i64 0) = some (.int .u8 (c.toNat : Int)) := ix
  have hc := c.toNat_lt
  have cv : ∀ H, xconv Tryd.prog T.uint8 T.int (.int .u8 (c.toNat : Int)) H = some (.int .i64 (c.toNat : Int), H) := fun H => by
    refine (xconv_int (a := .u8) (b := .i64) (s := T.uint8) (t := T.int) Tryd.underlying5 Tryd.underlying3).trans ?_
    rw [wrap_i64 ⟨by omega, by omega⟩]
  have m := q_Index (mk (c :: s)) H2 (by rw [bl_mk]; exact hl)
  rw [bl_mk] at m
  have hge := Lib.index_ge (c :: s) [0, 1]
  have hroom := Lib.index_room (c :: s) [0, 1]
  unfold tkT
  by_cases hneg : Lib.index (c :: s) [0, 1] < 0
  · rw [if_pos hneg]
    obtain ⟨H3, hH3⟩ : ∃ H3, H2.set H.n (.cells [.int .i64 3, .int .u64 0, .int .i64 0, .string (mk []), .bool false] T.api_Cell true) = H3 := ⟨_, rfl⟩
    have s3 : Still H H3 := by rw [← hH3]; exact Fr.set (s1.trans s2) _ _ (fun h => by omega)
    have f3 : H3.f H.n = .cells [.int .i64 3, .int .u64 0, .int .i64 0, .string (mk []), .bool false] T.api_Cell true := by rw [← hH3]; exact set_f_eq
    generalize Lib.index (c :: s) [0, 1] = j at *
    generalize (c.toNat : Int) = z at *
    apply pure_of _ (d_rows_take _ _ H) rfl
    rotate_left 2
    · simp (disch := first | with_reducible rfl | assumption | omega | rfl | (simp only [go_sem]; first | done | omega)) only [go_sem, ↓reduceIte, reduceCtorEq, Nat.reduceEqDiff, Nat.reduceAdd, Nat.reduceSub, Nat.reduceMul, Nat.reduceDiv, Nat.reduceMod, Nat.reduceLeDiff, Nat.reduceLT, Nat.reduceBEq, Int.reduceEq, Int.reduceBEq, Int.reduceBNe, Int.reduceLT, Int.reduceLE, Int.reduceAdd, Int.reduceSub, Int.reduceNeg, Int.reduceToNat, Int.reducePow, Nat.reducePow, Int.reduceMul, Int.reduceDiv, ↓s_rows_take, hH1, hH2, f2, g2, ix, cv, enterK_eq m, hneg, hH3, f3, xload_cell]
      rfl
    · exact s3
  · rw [if_neg hneg]
    obtain ⟨n, hn⟩ : ∃ n : Nat, Lib.index (c :: s) [0, 1] = (n : Int) := ⟨(Lib.index (c :: s) [0, 1]).toNat, by omega⟩
    have hroom := hroom (by omega)
    rw [hn] at m hneg hroom ⊢
    rw [Int.toNat_natCast]
    have hroom : n + 2 ≤ (c :: s).length := by
      have : (([0, 1] : List UInt8).length : Int) = 2 := rfl
      omega
    have a1 := slT_hi (s := mk (c :: s)) (q := .i64) (j := n) (by rw [bl_mk]; omega)
    have a2 := slT_lo (s := mk (c :: s)) (q := .i64) (i := n + 2) (by rw [bl_mk]; omega)
    rw [bl_mk] at a1 a2
    have a2 : slT (.string (mk (c :: s))) (some (.int .i64 ((n : Int) + 2))) none = some (.string (mk ((c :: s).drop (n + 2)))) := a2
    have m2 := q_ReplaceAll2 (mk ((c :: s).take n)) H2 (by rw [bl_mk, List.length_take]; omega)
    rw [bl_mk] at m2
    obtain ⟨H3, hH3⟩ : ∃ H3, H2.set H1.n (.cells [.int .i64 3, .int .u64 0, .int .i64 0, .string (mk (Lib.replaceAll ((c :: s).take n) [0, 255] [0])), .bool false] T.api_Cell true) = H3 := ⟨_, rfl⟩
    have s3 : Still H1 H3 := by rw [← hH3]; exact Fr.set s2 _ _ (fun h => by omega)
    have f3 : H3.f H1.n = .cells [.int .i64 3, .int .u64 0, .int .i64 0, .string (mk (Lib.replaceAll ((c :: s).take n) [0, 255] [0])), .bool false] T.api_Cell true := by rw [← hH3]; exact set_f_eq
    have g3 : H3.f H.n = .cells [.int .i64 0, .int .u64 0, .int .i64 0, .string (mk []), .bool false] T.api_Cell true := by rw [s3.f (by omega) fun h => h]; exact f1
    obtain ⟨H4, hH4⟩ : ∃ H4, H3.set H.n (.cells [.int .i64 3, .int .u64 0, .int .i64 0, .string (mk (Lib.replaceAll ((c :: s).take n) [0, 255] [0])), .bool false] T.api_Cell true) = H4 := ⟨_, rfl⟩
    have s4 : Still H H4 := by rw [← hH4]; exact Fr.set (s1.trans s3) _ _ (fun h => by omega)
    have f4 : H4.f H.n = .cells [.int .i64 3, .int .u64 0, .int .i64 0, .string (mk (Lib.replaceAll ((c :: s).take n) [0, 255] [0])), .bool false] T.api_Cell true := by rw [← hH4]; exact set_f_eq
    have ad : ∀ ox oy, xbin Tryd.prog .add T.int ox oy (.int .i64 (n : Int)) (.int .i64 2) = some (.int .i64 ((n : Int) + 2)) := fun ox oy => add_i64 (by omega)
    generalize (c.toNat : Int) = z at *
    generalize Lib.replaceAll ((c :: s).take n) [0, 255] [0] = rp at *
    generalize (c :: s).drop (n + 2) = dr at *
    apply pure_of _ (d_rows_take _ _ H) rfl
    rotate_left 2
    · simp (disch := first | with_reducible rfl | assumption | omega | rfl | (simp only [go_sem]; first | done | omega)) only [go_sem, ↓reduceIte, reduceCtorEq, Nat.reduceEqDiff, Nat.reduceAdd, Nat.reduceSub, Nat.reduceMul, Nat.reduceDiv, Nat.reduceMod, Nat.reduceLeDiff, Nat.reduceLT, Nat.reduceBEq, Int.reduceEq, Int.reduceBEq, Int.reduceBNe, Int.reduceLT, Int.reduceLE, Int.reduceAdd, Int.reduceSub, Int.reduceNeg, Int.reduceToNat, Int.reducePow, Nat.reducePow, Int.reduceMul, Int.reduceDiv, ↓s_rows_take, hH1, hH2, f2, ix, cv, enterK_eq m, hneg, a1, enterK_eq m2, ad, a2, hH3, f3, g3, hH4, f4, xload_cell]
      rfl
    · exact s4

/-- What take answers. -/
def tkC (k : Int) (c : UInt8) (s : List UInt8) : Cl × List UInt8 × Bool :=
  if k = 1 then tkU (numR s c.toNat false)
  else if k = 2 then (if 128 ≤ c.toNat then tkP (numR s (c.toNat - 128) false) else tkN (numR s (127 - c.toNat) true))
  else if k = 3 then tkT (c :: s)
  else (⟨4, 0, 0, mk [], decide ((c.toNat : Int) = 1)⟩, s, true)
def tk (k : Int) : List UInt8 → Cl × List UInt8 × Bool
  | [] => (⟨k, 0, 0, mk [], false⟩, [], false)
  | c :: s => tkC k c s
theorem q_take (k : Int) (s : List UInt8) (H : AHeap) (hk : kindP k = true) (hl : s.length ≤ 1000000) : CC F.rows_take [.string (mk s), .int .i64 k] H = some (tkV (tk k s), H) := by
  cases s with
  | nil => exact q_take_nil k H
  | cons c s =>
    show _ = some (tkV (tkC k c s), H)
    unfold tkC
    by_cases h1 : k = 1
    · subst h1; rw [if_pos rfl]; exact q_take_uint c s H
    rw [if_neg h1]
    by_cases h2 : k = 2
    · subst h2
      rw [if_pos rfl]
      split
      · rename_i h; exact q_take_pos c s H h
      · rename_i h; exact q_take_neg c s H (by omega)
    rw [if_neg h2]
    by_cases h3 : k = 3
    · subst h3
      rw [if_pos rfl]
      exact q_take_text c s H hl
    rw [if_neg h3]
    have h4 : k = 4 := by
      unfold kindP at hk
      simp only [Bool.and_eq_true, decide_eq_true_eq] at hk
      omega
    subst h4
    exact q_take_bool c s H

end Go.Proofs.YtlmhioanjmhaiaaDoor

/-
  Chapter 40: plain: unescaping; what take answers is a cell of its kind's size. Rows of any kind that grow.
  Conditions: none. By an AI agent.
-/
set_option maxRecDepth 10000
set_option linter.unusedSimpArgs false
set_option linter.unusedVariables false
namespace Go.Proofs.YtlmhioanjmhaiaaDoor
open Go Eng

/-! ### unescaping -/
def une : List UInt8 → List UInt8
  | [] => []
  | [c] => [c]
  | c :: d :: l => if c = 0 ∧ d = 255 then 0 :: une l else c :: une (d :: l)
theorem une_len : ∀ l : List UInt8, (une l).length ≤ l.length
  | [] => Nat.le_refl _
  | [_] => Nat.le_refl _
  | c :: d :: l => by
    unfold une
    split
    · have := une_len l; simp; omega
    · have := une_len (d :: l); simp at this ⊢; omega
theorem une_other {c : UInt8} {l : List UInt8} (h : ¬ ([0, 255] : List UInt8).isPrefixOf (c :: l) = true) : une (c :: l) = c :: une l := by
  cases l with
  | nil => rfl
  | cons d l =>
    have : ¬ (c = 0 ∧ d = 255) := by rintro ⟨rfl, rfl⟩; exact h (by simp [List.isPrefixOf])
    rw [une, if_neg this]
theorem index_pre {p l : List UInt8} (h : p.isPrefixOf l = true) : Lib.index l p = 0 := by
  cases l with
  | nil =>
    have : p = [] := by cases p with | nil => rfl | cons a b => simp [List.isPrefixOf] at h
    subst this; rfl
  | cons c l => rw [Lib.index, h]; rfl
theorem index_npre {p : List UInt8} {c : UInt8} {l : List UInt8} (h : ¬ p.isPrefixOf (c :: l) = true) : Lib.index (c :: l) p = if Lib.index l p = -1 then -1 else Lib.index l p + 1 := by
  rw [Lib.index]
  simp only [h, if_false]
  by_cases h1 : Lib.index l p = -1 <;> simp [h1]
theorem count_npre {p : List UInt8} (hp : p ≠ []) {c : UInt8} {l : List UInt8} (h : ¬ p.isPrefixOf (c :: l) = true) : Lib.count (c :: l) p = Lib.count l p := by
  by_cases h1 : Lib.index l p = -1
  · rw [Lib.count_miss h1, Lib.count_miss (by rw [index_npre h, if_pos h1])]
  · have hg := Lib.index_ge l p
    obtain ⟨i, hi⟩ : ∃ i : Nat, Lib.index l p = i := ⟨(Lib.index l p).toNat, by omega⟩
    rw [Lib.count_hit (i := i) hp hi, Lib.count_hit (i := i + 1) hp (by rw [index_npre h, if_neg h1, hi]; omega), Nat.add_right_comm, List.drop_succ_cons]
theorem replaceK_npre {p w : List UInt8} {c : UInt8} {l : List UInt8} (h : ¬ p.isPrefixOf (c :: l) = true) : ∀ k, Lib.replaceK p w k (c :: l) = c :: Lib.replaceK p w k l
  | 0 => rfl
  | k + 1 => by
    by_cases h1 : Lib.index l p = -1
    · have h2 : Lib.index (c :: l) p = -1 := by rw [index_npre h, if_pos h1]
      simp [Lib.replaceK, h1, h2]
    · have hg := Lib.index_ge l p
      obtain ⟨i, hi⟩ : ∃ i : Nat, Lib.index l p = i := ⟨(Lib.index l p).toNat, by omega⟩
      rw [Lib.replaceK_hit _ _ _ _ i hi, Lib.replaceK_hit _ _ _ _ (i + 1) (by rw [index_npre h, if_neg h1, hi]; omega), Nat.add_right_comm, List.drop_succ_cons]
      rfl
theorem repl_une : ∀ (n : Nat) (l : List UInt8), l.length ≤ n → Lib.replaceK [0, 255] [0] (Lib.count l [0, 255]) l = une l
  | _, [], _ => by simp [Lib.count, Lib.countFrom, Lib.index, Lib.replaceK, une]
  | n + 1, c :: l, hn => by
    by_cases h : ([0, 255] : List UInt8).isPrefixOf (c :: l) = true
    · have hi := index_pre h
      obtain ⟨m, rfl, rfl⟩ : ∃ m, c = 0 ∧ l = 255 :: m := by
        cases l with
        | nil => simp [List.isPrefixOf] at h
        | cons d m => simp [List.isPrefixOf] at h; exact ⟨m, h.1.symm, by rw [h.2]⟩
      rw [Lib.count_hit (i := 0) (by simp) hi, Nat.add_comm 1, Lib.replaceK_hit _ _ _ _ 0 hi]
      show [] ++ [0] ++ Lib.replaceK [0, 255] [0] (Lib.count m [0, 255]) m = _
      rw [repl_une n m (by simp at hn; omega), une, if_pos ⟨rfl, rfl⟩]
      rfl
    · rw [count_npre (by simp) h, replaceK_npre h, repl_une n l (by simp at hn; omega), une_other h]
theorem replaceAll_une (l : List UInt8) : Lib.replaceAll l [0, 255] [0] = une l := by
  unfold Lib.replaceAll Lib.replace Lib.replaceNum
  have h : ¬ (([0, 255] : List UInt8) == [0]) = true := by decide
  rw [if_neg h, if_pos (.inl (by decide))]
  exact repl_une l.length l (Nat.le_refl _)

/-! ### sizes -/
theorem numF_lt : ∀ (l : List UInt8) (a : Nat), numF a l < (a + 1) * 256 ^ l.length
  | [], a => by simp [numF]
  | c :: l, a => by
    have h := numF_lt l (a * 256 + c.toNat)
    have hc := c.toNat_lt
    rw [numF, List.length_cons, Nat.pow_succ]
    refine Nat.lt_of_lt_of_le h ?_
    rw [Nat.mul_comm (256 ^ l.length) 256, ← Nat.mul_assoc]
    exact Nat.mul_le_mul_right _ (by omega)
theorem numR_lt {s : List UInt8} {n : Nat} {inv : Bool} {u : Nat} {r : List UInt8} (h : numR s n inv = some (u, r)) : u < 18446744073709551616 ∧ r.length ≤ s.length := by
  unfold numR at h
  split at h
  · cases h
  · rename_i h1
    cases h
    have hl : (invL inv (s.take n)).length ≤ 8 := by cases inv <;> simp [invL] <;> omega
    have := numF_lt (invL inv (s.take n)) 0
    have h8 : (256 : Nat) ^ (invL inv (s.take n)).length ≤ 256 ^ 8 := Nat.pow_le_pow_right (by decide) hl
    have : (256 : Nat) ^ 8 = 18446744073709551616 := by decide
    refine ⟨by omega, by simp⟩
theorem wrap64_rng (a : Int) : -9223372036854775808 ≤ IntKind.wrap .i64 a ∧ IntKind.wrap .i64 a < 9223372036854775808 := by
  unfold IntKind.wrap
  simp only [IntKind.bits, IntKind.signed]
  simp
  split <;> omega
theorem tk_ok {k : Int} {s : List UInt8} (hl : s.length ≤ 1000) : CellOk (tk k s).1 ∧ (tk k s).2.1.length ≤ s.length := by
  cases s with
  | nil => exact ⟨⟨⟨by simp [tk], by simp [tk]⟩, ⟨by simp [tk], by simp [tk]⟩, by simp [tk]⟩, Nat.le_refl _⟩
  | cons c s =>
    show CellOk (tkC k c s).1 ∧ (tkC k c s).2.1.length ≤ (c :: s).length
    unfold tkC
    split
    · cases h : numR s c.toNat false with
      | none => exact ⟨⟨⟨by decide, by decide⟩, ⟨by decide, by decide⟩, by simp [tkU]⟩, by simp [tkU]⟩
      | some p =>
        obtain ⟨h1, h2⟩ := numR_lt (u := p.1) (r := p.2) h
        exact ⟨⟨⟨by simp [tkU], by simp [tkU]; omega⟩, ⟨by simp [tkU], by simp [tkU]⟩, by simp [tkU]⟩, by simp [tkU]; omega⟩
    · split
      · split
        · cases h : numR s (c.toNat - 128) false with
          | none => exact ⟨⟨⟨by decide, by decide⟩, ⟨by decide, by decide⟩, by simp [tkP]⟩, by simp [tkP]⟩
          | some p =>
            obtain ⟨h1, h2⟩ := numR_lt (u := p.1) (r := p.2) h
            exact ⟨⟨⟨by simp [tkP], by simp [tkP]⟩, wrap64_rng _, by simp [tkP]⟩, by simp [tkP]; omega⟩
        · cases h : numR s (127 - c.toNat) true with
          | none => exact ⟨⟨⟨by decide, by decide⟩, ⟨by decide, by decide⟩, by simp [tkN]⟩, by simp [tkN]⟩
          | some p =>
            obtain ⟨h1, h2⟩ := numR_lt (u := p.1) (r := p.2) h
            exact ⟨⟨⟨by simp [tkN], by simp [tkN]⟩, wrap64_rng _, by simp [tkN]⟩, by simp [tkN]; omega⟩
      · split
        · unfold tkT
          split
          · exact ⟨⟨⟨by decide, by decide⟩, ⟨by decide, by decide⟩, by simp⟩, by simp⟩
          · refine ⟨⟨⟨by simp, by simp⟩, ⟨by simp, by simp⟩, ?_⟩, by dsimp only; rw [List.length_drop]; omega⟩
            rw [replaceAll_une]
            have := une_len ((c :: s).take (Lib.index (c :: s) [0, 1]).toNat)
            have h2 : ((c :: s).take (Lib.index (c :: s) [0, 1]).toNat).length ≤ (c :: s).length := by simp; omega
            dsimp only
            rw [bl_mk]
            omega
        · exact ⟨⟨⟨by simp, by simp⟩, ⟨by simp, by simp⟩, by simp⟩, by simp⟩

/-! ### rows of any kind -/
structure SinceE {α : Type} (E : Enc α) (e : TypeId) (H0 H : AHeap) (v : Value) (l : List α) : Prop where
  still : Still H0 H
  own : Own E H e v l
  new : ∀ b, blockOf v = some b → H0.n ≤ b
section
variable {α : Type} {E : Enc α} {e : TypeId}
theorem SinceE.nil {H : AHeap} : SinceE E e H H (.slice none 0 0) [] := ⟨Fr.refl H, .inl ⟨rfl, rfl⟩, fun b h => by cases h⟩
theorem SinceE.to {H0 H H' : AHeap} {v : Value} {l : List α} (r : SinceE E e H0 H v l) (s : Still H H') : SinceE E e H0 H' v l := ⟨r.still.trans s, r.own.still s, r.new⟩
theorem SinceE.app {H0 H : AHeap} {v : Value} {l : List α} (r : SinceE E e H0 H v l) (m : List α) {sz bytes : Nat} (hsz : sz = E.w) (hb : bytes ≤ 1000) {src : Option (Nat × List Value)} (hsrc : src = some (m.length, E.cells m)) (hl : l.length + m.length ≤ 1000000) :
    ∃ v' H', Eng.app e sz bytes v src H = some (v', H') ∧ SinceE E e H0 H' v' (l ++ m) := by
  have hmul : (l.length + m.length) * bytes ≤ 1000000 * 1000 := Nat.mul_le_mul hl hb
  obtain ⟨v', H', e1, e2, e3, e4⟩ := r.own.appA m (sz := sz) (bytes := bytes) hsz (by omega) (by omega) hsrc
  refine ⟨v', H', e1, r.still.then e3 fun b hb h => ?_, e2, fun b h => ?_⟩
  · unfold OnlyOf at h; have := r.new b h; omega
  · rcases e4 with h4 | h4
    · rw [h4] at h; exact r.new b h
    · rw [h4] at h; cases h; exact r.still.n
theorem newE {H : AHeap} {l : List α} {b : Nat} (hb : b < H.n) (hf : H.f b = .cells (E.cells l) e true) : RdS E e H (.slice (some ⟨b, 0, none⟩) l.length (2 * l.length)) l := by
  refine ⟨?_, .inr ⟨b, 0, _, _, rfl, by omega, .inl (by omega), hb⟩⟩
  by_cases h0 : l = []
  · subst h0; exact .inr (.inl ⟨rfl, _, _, rfl, rfl⟩)
  · refine .inr (.inr ⟨b, 0, _, rfl, h0, hb, ?_⟩)
    rw [hf, cutB_c (by simp), List.drop_zero, List.take_of_length_le (by simp)]
theorem SinceE.lit {H0 H : AHeap} {v : Value} {l : List α} (r : SinceE E e H0 H v l) (m : List α) {sz bytes : Nat} (hsz : sz = E.w) (hby : bytes ≤ 1000) {H1 : AHeap} (h1 : H.push (.cells (E.cells m) e true) = H1) (hb : l.length + m.length ≤ 1000000) :
    ∃ v' H', Eng.app e sz bytes v (srcS sz (.slice (some ⟨H.n, 0, none⟩) m.length (2 * m.length)) H1) H1 = some (v', H') ∧ SinceE E e H0 H' v' (l ++ m) := by
  have s1 : Still H H1 := by rw [← h1]; exact (Fr.refl H).push _
  have n1 : H1.n = H.n + 1 := by rw [← h1]; rfl
  have f1 : H1.f H.n = .cells (E.cells m) e true := by rw [← h1]; exact push_f_eq rfl
  have rm : RdS E e H1 (.slice (some ⟨H.n, 0, none⟩) m.length (2 * m.length)) m := newE (by omega) f1
  exact (r.to s1).app m hsz hby (rm.1.src hsz) hb
end

end Go.Proofs.YtlmhioanjmhaiaaDoor

/-
  Chapter 40: Read.
  Conditions: none. By an AI agent.
-/
set_option maxRecDepth 10000
set_option linter.unusedSimpArgs false
set_option linter.unusedVariables false
namespace Go.Proofs.YtlmhioanjmhaiaaDoor
open Go Eng

/-- The cells that a string begins with. -/
def takesP : List Int → List UInt8 → Option (List Cl)
  | [], _ => some []
  | k :: ks, s => if (tk k s).2.2 = true then (takesP ks (tk k s).2.1).map ((tk k s).1 :: ·) else none
theorem takesP_ok : ∀ (ks : List Int) (s : List UInt8) (l : List Cl), s.length ≤ 1000 → takesP ks s = some l → l.length = ks.length ∧ ∀ c ∈ l, CellOk c
  | [], s, l, _, h => by cases h; exact ⟨rfl, by simp⟩
  | k :: ks, s, l, hs, h => by
    unfold takesP at h
    split at h
    · obtain ⟨m, h1, rfl⟩ := Option.map_eq_some_iff.1 h
      have h2 := tk_ok (k := k) hs
      have := takesP_ok ks _ m (by omega) h1
      refine ⟨by simp [this.1], fun c hc => ?_⟩
      rcases List.mem_cons.1 hc with rfl | hc
      · exact h2.1
      · exact this.2 c hc
    · cases h

set_option maxHeartbeats 1000000 in
theorem l_Read1 (v1 v2 v3 v27 v28 v29 kv : Value) (kl : List Int) (H0 : AHeap) (hk : KR H0 kv kl) (hkl : kl.length ≤ 8) (hkk : ∀ k ∈ kl, kindP k = true) : ∀ (t : List Int) (i : Nat) (H : AHeap) (v : Value) (o : List Cl) (s : List UInt8), kl.drop i = t → s.length ≤ 1000 → o.length ≤ 100 + i → SinceE ECl T.api_Cell H0 H v o →
    (takesP t s = none → ∃ H', Still H0 H' ∧ ∀ K : K, l_rows_Read_1 v1 v2 v3 v (.string (mk s)) v27 v28 v29 kv (.int .i64 (kl.length : Int)) (.int .i64 (i : Int)) H (blkK [1, 2, 3, 8, 27, 28, 29] 2 K) = K .ret [(6, .slice none 0 0), (7, .int .i64 12)] H') ∧
    (∀ l, takesP t s = some l → ∃ v' H', SinceE ECl T.api_Cell H0 H' v' (o ++ l) ∧ ∀ K : K, l_rows_Read_1 v1 v2 v3 v (.string (mk s)) v27 v28 v29 kv (.int .i64 (kl.length : Int)) (.int .i64 (i : Int)) H (blkK [1, 2, 3, 8, 27, 28, 29] 2 K) = K .normal [(1, v1), (2, v2), (3, v3), (8, v'), (27, v27), (28, v28), (29, v29)] H')
  | [], i, H, v, o, s, hx, hs, ho, so => by
    have h : kl.length ≤ i := List.drop_eq_nil_iff.1 hx
    have hlt : ¬ (i : Int) < (kl.length : Int) := by omega
    refine ⟨fun h => (by simp [takesP] at h), fun l hl => ?_⟩
    cases hl
    refine ⟨v, H, by simpa using so, fun K => ?_⟩
    rw [r_rows_Read_1]
    simp (disch := first | with_reducible rfl | assumption | omega | rfl | (simp only [go_sem]; first | done | omega)) only [go_sem, ↓reduceIte, reduceCtorEq, Nat.reduceEqDiff, Nat.reduceAdd, Nat.reduceSub, Nat.reduceMul, Nat.reduceDiv, Nat.reduceMod, Nat.reduceLeDiff, Nat.reduceLT, Nat.reduceBEq, Int.reduceEq, Int.reduceBEq, Int.reduceBNe, Int.reduceLT, Int.reduceLE, Int.reduceAdd, Int.reduceSub, Int.reduceNeg, Int.reduceToNat, Int.reducePow, Nat.reducePow, Int.reduceMul, Int.reduceDiv, ↓s_rows_Read_b1, hlt]
  | k :: t, i, H, v, o, s, hx, hs, ho, so => by
    obtain ⟨h, hxa, hx'⟩ := drop_cons hx
    have hlt : (i : Int) < (kl.length : Int) := by omega
    obtain ⟨b2, o2, i2, c2⟩ := rd_kind (hk.still so.still) h (iv := (i : Int)) rfl
    rw [hxa] at c2
    have hkp := hkk k (by rw [← hxa]; exact List.getElem_mem h)
    have m := q_take k s H hkp (by omega)
    have hok := tk_ok (k := k) hs
    unfold takesP
    obtain ⟨⟨⟨ck, cu, ci, cs, cb⟩, r, ok⟩, hy⟩ : ∃ y, tk k s = y := ⟨_, rfl⟩
    rw [hy] at m hok ⊢
    dsimp only at hok ⊢
    have m : CC F.rows_take [.string (mk s), .int .i64 k] H = some (.tuple #[.agg ⟨[.int .i64 ck, .int .u64 cu, .int .i64 ci, .string cs, .bool cb]⟩, .string (mk r), .bool ok], H) := m
    obtain ⟨H1, hH1⟩ : ∃ H1, (H.push (.cells [.int .i64 0, .int .u64 0, .int .i64 0, .string (mk []), .bool false] T.api_Cell true)).set H.n (.cells [.int .i64 ck, .int .u64 cu, .int .i64 ci, .string cs, .bool cb] T.api_Cell true) = H1 := ⟨_, rfl⟩
    have s1 : Still H H1 := by rw [← hH1]; exact Fr.set ((Fr.refl H).push _) _ _ (fun h => by omega)
    have f1 : H1.f H.n = .cells [.int .i64 ck, .int .u64 cu, .int .i64 ci, .string cs, .bool cb] T.api_Cell true := by rw [← hH1]; exact set_f_eq
    cases ok with
    | false =>
      refine ⟨fun _ => ⟨H1, so.still.trans s1, fun K => ?_⟩, fun l h => by simp at h⟩
      rw [r_rows_Read_1]
      simp (disch := first | with_reducible rfl | assumption | omega | rfl | (simp only [go_sem]; first | done | omega)) only [go_sem, ↓reduceIte, reduceCtorEq, Nat.reduceEqDiff, Nat.reduceAdd, Nat.reduceSub, Nat.reduceMul, Nat.reduceDiv, Nat.reduceMod, Nat.reduceLeDiff, Nat.reduceLT, Nat.reduceBEq, Int.reduceEq, Int.reduceBEq, Int.reduceBNe, Int.reduceLT, Int.reduceLE, Int.reduceAdd, Int.reduceSub, Int.reduceNeg, Int.reduceToNat, Int.reducePow, Nat.reducePow, Int.reduceMul, Int.reduceDiv, ↓s_rows_Read_b1, hlt, i2, c2, enterK_eq m, hH1]
    | true =>
      rw [if_pos rfl]
      obtain ⟨H2, hH2⟩ : ∃ H2, H1.push (.cells [.int .i64 ck, .int .u64 cu, .int .i64 ci, .string cs, .bool cb] T.api_Cell true) = H2 := ⟨_, rfl⟩
      have hH2' : H1.push (.cells (ECl.cells [⟨ck, cu, ci, cs, cb⟩]) T.api_Cell true) = H2 := hH2
      obtain ⟨v3', H3, a3, s3⟩ := (so.to s1).lit (sz := 5) (bytes := 48) [⟨ck, cu, ci, cs, cb⟩] rfl (by decide) hH2' (by simp; omega)
      have a3 : Eng.app T.api_Cell 5 48 v (srcS 5 (.slice (some ⟨H1.n, 0, none⟩) 1 2) H2) H2 = some (v3', H3) := a3
      obtain ⟨k1, k2⟩ := l_Read1 v1 v2 v3 v27 v28 v29 kv kl H0 hk hkl hkk t (i + 1) H3 v3' (o ++ [⟨ck, cu, ci, cs, cb⟩]) r hx' (by omega) (by simp; omega) s3
      rw [Int.natCast_add] at k1 k2
      refine ⟨fun h3 => ?_, fun l h3 => ?_⟩
      · obtain ⟨H', s', e'⟩ := k1 (by cases hq : takesP t r with | none => rfl | some q => rw [hq] at h3; cases h3)
        refine ⟨H', s', fun K => ?_⟩
        have := e' K
        rw [r_rows_Read_1]
        simp (disch := first | with_reducible rfl | assumption | omega | rfl | (simp only [go_sem]; first | done | omega)) only [go_sem, ↓reduceIte, reduceCtorEq, Nat.reduceEqDiff, Nat.reduceAdd, Nat.reduceSub, Nat.reduceMul, Nat.reduceDiv, Nat.reduceMod, Nat.reduceLeDiff, Nat.reduceLT, Nat.reduceBEq, Int.reduceEq, Int.reduceBEq, Int.reduceBNe, Int.reduceLT, Int.reduceLE, Int.reduceAdd, Int.reduceSub, Int.reduceNeg, Int.reduceToNat, Int.reducePow, Nat.reducePow, Int.reduceMul, Int.reduceDiv, ↓s_rows_Read_b1, hlt, i2, c2, enterK_eq m, hH1, f1, hH2, a3]
        exact this
      · obtain ⟨l', h4, rfl⟩ := Option.map_eq_some_iff.1 h3
        obtain ⟨v', H', s', e'⟩ := k2 l' h4
        refine ⟨v', H', by simpa using s', fun K => ?_⟩
        have := e' K
        rw [r_rows_Read_1]
        simp (disch := first | with_reducible rfl | assumption | omega | rfl | (simp only [go_sem]; first | done | omega)) only [go_sem, ↓reduceIte, reduceCtorEq, Nat.reduceEqDiff, Nat.reduceAdd, Nat.reduceSub, Nat.reduceMul, Nat.reduceDiv, Nat.reduceMod, Nat.reduceLeDiff, Nat.reduceLT, Nat.reduceBEq, Int.reduceEq, Int.reduceBEq, Int.reduceBNe, Int.reduceLT, Int.reduceLE, Int.reduceAdd, Int.reduceSub, Int.reduceNeg, Int.reduceToNat, Int.reducePow, Nat.reducePow, Int.reduceMul, Int.reduceDiv, ↓s_rows_Read_b1, hlt, i2, c2, enterK_eq m, hH1, f1, hH2, a3]
        exact this

end Go.Proofs.YtlmhioanjmhaiaaDoor

/-
  Chapter 40: Read.
  Conditions: none. By an AI agent.
-/
set_option maxRecDepth 10000
set_option linter.unusedSimpArgs false
set_option linter.unusedVariables false
namespace Go.Proofs.YtlmhioanjmhaiaaDoor
open Go Eng

def readP (kl rl : List Int) (kt val : List UInt8) : Option (List Cl) := (takesP kl kt).bind fun a => (takesP rl val).map (a ++ ·)
/-- What Read answers. -/
def readR (n : Int) (kl rl : List Int) (key val : List UInt8) : List Cl × Int :=
  if validP n kl rl = true then
    (match key with
     | [] => ([], 12)
     | _ :: kt => match readP kl rl kt val with
       | none => ([], 12)
       | some out => if rowR n kl rl out = (key, val, 0) then (out, 0) else ([], 12))
  else ([], 2)

theorem okk {n : Int} {kl rl : List Int} (h : validP n kl rl = true) : (∀ k ∈ kl, kindP k = true) ∧ (∀ k ∈ rl, kindP k = true) ∧ 1 ≤ kl.length := by
  unfold validP at h
  simp only [Bool.and_eq_true, decide_eq_true_eq, List.all_append, List.all_eq_true] at h
  exact ⟨h.2.2.2.2.2.1, h.2.2.2.2.2.2, h.2.2.1⟩

theorem read_nil {n : Int} {kv rv : Value} {kl rl : List Int} {key val : List UInt8} {H : AHeap} {e : Int} (h : CC F.rows_Read [tbV n kv rv, .string (mk key), .string (mk val)] H = some (.tuple #[.slice none 0 0, .int .i64 e], H)) (hr : readR n kl rl key val = ([], e)) :
    ∃ v' H', CC F.rows_Read [tbV n kv rv, .string (mk key), .string (mk val)] H = some (.tuple #[v', .int .i64 (readR n kl rl key val).2], H') ∧ SinceE ECl T.api_Cell H H' v' (readR n kl rl key val).1 := by
  rw [hr]
  exact ⟨_, _, h, SinceE.nil⟩

set_option maxHeartbeats 2000000 in
theorem q_Read (n : Int) (kv rv : Value) (kl rl : List Int) (key val : List UInt8) (H : AHeap) (ok : OkH H) (hk : KR H kv kl) (hr : KR H rv rl) (hkl : key.length ≤ 1000) (hvl : val.length ≤ 1000) :
    ∃ v' H', CC F.rows_Read [tbV n kv rv, .string (mk key), .string (mk val)] H = some (.tuple #[v', .int .i64 (readR n kl rl key val).2], H') ∧ SinceE ECl T.api_Cell H H' v' (readR n kl rl key val).1 := by
  obtain ⟨H1, hH1⟩ : ∃ H1, H.push (.cells [.int .i64 n, kv, rv] T.api_Table true) = H1 := ⟨_, rfl⟩
  have s1 : Still H H1 := by rw [← hH1]; exact (Fr.refl H).push _
  have n1 : H1.n = H.n + 1 := by rw [← hH1]; rfl
  have f1 : H1.f H.n = .cells [.int .i64 n, kv, rv] T.api_Table true := by rw [← hH1]; exact push_f_eq rfl
  have m1 := q_Valid n kv rv kl rl H1 (hk.still s1) (hr.still s1)
  cases hv : validP n kl rl with
  | false =>
    rw [hv] at m1
    refine read_nil (e := 2) ?_ (by unfold readR; rw [if_neg (by rw [hv]; decide)])
    apply pure_of _ (d_rows_Read _ _ _ H) rfl
    rotate_left 2
    · simp (disch := first | with_reducible rfl | assumption | omega | rfl | (simp only [go_sem]; first | done | omega)) only [go_sem, ↓reduceIte, reduceCtorEq, Nat.reduceEqDiff, Nat.reduceAdd, Nat.reduceSub, Nat.reduceMul, Nat.reduceDiv, Nat.reduceMod, Nat.reduceLeDiff, Nat.reduceLT, Nat.reduceBEq, Int.reduceEq, Int.reduceBEq, Int.reduceBNe, Int.reduceLT, Int.reduceLE, Int.reduceAdd, Int.reduceSub, Int.reduceNeg, Int.reduceToNat, Int.reducePow, Nat.reducePow, Int.reduceMul, Int.reduceDiv, ↓s_rows_Read, hH1, f1, ↓enterK_eq m1, enterK_eq m1]
      rfl
    · exact s1
  | true =>
  rw [hv] at m1
  obtain ⟨hkk, hrk, hk1⟩ := okk hv
  obtain ⟨_, _, hk8, hr8⟩ := validP_n hv
  cases key with
  | nil =>
    refine read_nil (e := 12) ?_ (by unfold readR; rw [if_pos hv])
    apply pure_of _ (d_rows_Read _ _ _ H) rfl
    rotate_left 2
    · simp (disch := first | with_reducible rfl | assumption | omega | rfl | (simp only [go_sem]; first | done | omega)) only [go_sem, ↓reduceIte, reduceCtorEq, Nat.reduceEqDiff, Nat.reduceAdd, Nat.reduceSub, Nat.reduceMul, Nat.reduceDiv, Nat.reduceMod, Nat.reduceLeDiff, Nat.reduceLT, Nat.reduceBEq, Int.reduceEq, Int.reduceBEq, Int.reduceBNe, Int.reduceLT, Int.reduceLE, Int.reduceAdd, Int.reduceSub, Int.reduceNeg, Int.reduceToNat, Int.reducePow, Nat.reducePow, Int.reduceMul, Int.reduceDiv, ↓s_rows_Read, hH1, f1, ↓enterK_eq m1, enterK_eq m1, bl_mk]
      rfl
    · exact s1
  | cons c kt =>
  have hktl : kt.length ≤ 1000 := by simp at hkl; omega
  have a1 := slT_lo (s := mk (c :: kt)) (q := .i64) (i := 1) (by rw [bl_mk]; simp)
  rw [bl_mk] at a1
  have a1 : slT (.string (mk (c :: kt))) (some (.int .i64 1)) none = some (.string (mk kt)) := a1
  have hne : ¬ (c :: kt = []) := by simp
  obtain ⟨key, hkey⟩ : ∃ key, c :: kt = key := ⟨_, rfl⟩
  have eR : readR n kl rl (c :: kt) val = (match readP kl rl kt val with | none => ([], 12) | some out => if rowR n kl rl out = (c :: kt, val, 0) then (out, 0) else ([], 12)) := by
    show (if validP n kl rl = true then _ else _) = _
    rw [if_pos hv]
  rw [hkey] at a1 hne eR ⊢
  obtain ⟨H2, hH2⟩ : ∃ H2, H1.push (.cells [.string (mk kt), .string (mk val)] T.string true) = H2 := ⟨_, rfl⟩
  have s2 : Still H1 H2 := by rw [← hH2]; exact (Fr.refl H1).push _
  have n2 : H2.n = H1.n + 1 := by rw [← hH2]; rfl
  have f2 : H2.f H1.n = .cells [.string (mk kt), .string (mk val)] T.string true := by rw [← hH2]; exact push_f_eq rfl
  have g2 : H2.f H.n = .cells [.int .i64 n, kv, rv] T.api_Table true := by rw [s2.f (by omega) fun h => h]; exact f1
  obtain ⟨H3, hH3⟩ : ∃ H3, H2.push (.cells [kv, rv] T.sl_api_CellKind true) = H3 := ⟨_, rfl⟩
  have s3 : Still H2 H3 := by rw [← hH3]; exact (Fr.refl H2).push _
  have n3 : H3.n = H2.n + 1 := by rw [← hH3]; rfl
  have f3 : H3.f H2.n = .cells [kv, rv] T.sl_api_CellKind true := by rw [← hH3]; exact push_f_eq rfl
  have s03 : Still H H3 := (s1.trans s2).trans s3
  have lk := hk.1.lenS
  have lr := hr.1.lenS
  have sx : Value.slice (some ⟨H1.n, 0, none⟩) 2 4 = .slice (some ⟨H1.n, 0, none⟩) 2 4 := rfl
  obtain ⟨w, hw⟩ : ∃ w, Value.slice (some ⟨H1.n, 0, none⟩) 2 4 = w := ⟨_, rfl⟩
  have wl : lenS w = some (.int .i64 2) := by rw [← hw]; rfl
  have w0 : ixS 1 w (.int .i64 0) = some (.pointer (some ⟨H1.n, 0, none⟩)) := by rw [← hw]; rfl
  have w1 : ixS 1 w (.int .i64 1) = some (.pointer (some ⟨H1.n, 1, none⟩)) := by rw [← hw]; rfl
  have bl0 : ∀ H, bldL T.sl_api_CellKind [.slice none 0 0] 2 [(0, kv), (1, rv)] H = some (.slice (some ⟨H.n, 0, none⟩) 2 4, H.push (.cells [kv, rv] T.sl_api_CellKind true)) := fun H => by
    obtain ⟨a, cc, e⟩ := hk.1.shape; obtain ⟨a', cc', e'⟩ := hr.1.shape; rw [e, e']; rfl
  obtain ⟨p1, p2⟩ := l_Read1 (.string (mk key)) (.string (mk val)) (.pointer (some ⟨H.n, 0, none⟩)) w (.int .i64 2) (.int .i64 0) kv kl H3 (hk.still s03) hk8 hkk kl 0 H3 (.slice none 0 0) [] kt (by simp) hktl (by simp) SinceE.nil
  cases ha : takesP kl kt with
  | none =>
    obtain ⟨H4, s4, e4⟩ := p1 ha
    have e4 : ∀ K : K, l_rows_Read_1 (.string (mk key)) (.string (mk val)) (.pointer (some ⟨H.n, 0, none⟩)) (.slice none 0 0) (.string (mk kt)) w (.int .i64 2) (.int .i64 0) kv (.int .i64 (kl.length : Int)) (.int .i64 0) H3 (blkK [1, 2, 3, 8, 27, 28, 29] 2 K) = K .ret [(6, .slice none 0 0), (7, .int .i64 12)] H4 := e4
    have eP : readP kl rl kt val = none := by unfold readP; rw [ha]; rfl
    refine read_nil (kl := kl) (rl := rl) (e := 12) ?_ (by rw [eR, eP])
    have z : ∀ K : K, l_rows_Read_0 (.string (mk key)) (.string (mk val)) (.pointer (some ⟨H.n, 0, none⟩)) (.slice none 0 0) w (.int .i64 2) (.int .i64 0) H2 (blkK [1, 2, 3, 8] 0 K) = K .ret [(6, .slice none 0 0), (7, .int .i64 12)] H4 := fun K => by
      rw [r_rows_Read_0]
      simp (disch := first | with_reducible rfl | assumption | omega | rfl | (simp only [go_sem]; first | done | omega)) only [go_sem, ↓reduceIte, reduceCtorEq, Nat.reduceEqDiff, Nat.reduceAdd, Nat.reduceSub, Nat.reduceMul, Nat.reduceDiv, Nat.reduceMod, Nat.reduceLeDiff, Nat.reduceLT, Nat.reduceBEq, Int.reduceEq, Int.reduceBEq, Int.reduceBNe, Int.reduceLT, Int.reduceLE, Int.reduceAdd, Int.reduceSub, Int.reduceNeg, Int.reduceToNat, Int.reducePow, Nat.reducePow, Int.reduceMul, Int.reduceDiv, ↓s_rows_Read_b0, w0, f2, g2, ↓bl0, hH3, f3, lk, e4]
    apply pure_of _ (d_rows_Read _ _ _ H) rfl
    rotate_left 2
    · simp (disch := first | with_reducible rfl | assumption | omega | rfl | (simp only [go_sem]; first | done | omega)) only [go_sem, ↓reduceIte, reduceCtorEq, Nat.reduceEqDiff, Nat.reduceAdd, Nat.reduceSub, Nat.reduceMul, Nat.reduceDiv, Nat.reduceMod, Nat.reduceLeDiff, Nat.reduceLT, Nat.reduceBEq, Int.reduceEq, Int.reduceBEq, Int.reduceBNe, Int.reduceLT, Int.reduceLE, Int.reduceAdd, Int.reduceSub, Int.reduceNeg, Int.reduceToNat, Int.reducePow, Nat.reducePow, Int.reduceMul, Int.reduceDiv, ↓s_rows_Read, hH1, f1, ↓enterK_eq m1, enterK_eq m1, bl_mk, hne, a1, hH2, hw, wl, z]
      rfl
    · exact s03.trans s4
  | some la =>
  obtain ⟨va, H4, so4, e4⟩ := p2 la ha
  have e4 : ∀ K : K, l_rows_Read_1 (.string (mk key)) (.string (mk val)) (.pointer (some ⟨H.n, 0, none⟩)) (.slice none 0 0) (.string (mk kt)) w (.int .i64 2) (.int .i64 0) kv (.int .i64 (kl.length : Int)) (.int .i64 0) H3 (blkK [1, 2, 3, 8, 27, 28, 29] 2 K) = K .normal [(1, .string (mk key)), (2, .string (mk val)), (3, .pointer (some ⟨H.n, 0, none⟩)), (8, va), (27, w), (28, .int .i64 2), (29, .int .i64 0)] H4 := e4
  rw [List.nil_append] at so4
  obtain ⟨hla, hca⟩ := takesP_ok kl kt la hktl ha
  have f4 : H4.f H1.n = .cells [.string (mk kt), .string (mk val)] T.string true := by rw [(s3.trans so4.still).f (by omega) fun h => h]; exact f2
  have g4 : H4.f H.n = .cells [.int .i64 n, kv, rv] T.api_Table true := by rw [(s3.trans so4.still).f (by omega) fun h => h]; exact g2
  obtain ⟨H5, hH5⟩ : ∃ H5, H4.push (.cells [kv, rv] T.sl_api_CellKind true) = H5 := ⟨_, rfl⟩
  have s5 : Still H4 H5 := by rw [← hH5]; exact (Fr.refl H4).push _
  have f5 : H5.f H4.n = .cells [kv, rv] T.sl_api_CellKind true := by rw [← hH5]; exact push_f_eq rfl
  obtain ⟨p1, p2⟩ := l_Read1 (.string (mk key)) (.string (mk val)) (.pointer (some ⟨H.n, 0, none⟩)) w (.int .i64 2) (.int .i64 1) rv rl H3 (hr.still s03) hr8 hrk rl 0 H5 va la val (by simp) hvl (by omega) (so4.to s5)
  cases hb : takesP rl val with
  | none =>
    obtain ⟨H6, s6, e6⟩ := p1 hb
    have e6 : ∀ K : K, l_rows_Read_1 (.string (mk key)) (.string (mk val)) (.pointer (some ⟨H.n, 0, none⟩)) va (.string (mk val)) w (.int .i64 2) (.int .i64 1) rv (.int .i64 (rl.length : Int)) (.int .i64 0) H5 (blkK [1, 2, 3, 8, 27, 28, 29] 2 K) = K .ret [(6, .slice none 0 0), (7, .int .i64 12)] H6 := e6
    have eP : readP kl rl kt val = none := by unfold readP; rw [ha, hb]; rfl
    refine read_nil (kl := kl) (rl := rl) (e := 12) ?_ (by rw [eR, eP])
    have z1 : ∀ K : K, l_rows_Read_0 (.string (mk key)) (.string (mk val)) (.pointer (some ⟨H.n, 0, none⟩)) va w (.int .i64 2) (.int .i64 1) H4 (blkK [1, 2, 3, 8] 0 K) = K .ret [(6, .slice none 0 0), (7, .int .i64 12)] H6 := fun K => by
      rw [r_rows_Read_0]
      simp (disch := first | with_reducible rfl | assumption | omega | rfl | (simp only [go_sem]; first | done | omega)) only [go_sem, ↓reduceIte, reduceCtorEq, Nat.reduceEqDiff, Nat.reduceAdd, Nat.reduceSub, Nat.reduceMul, Nat.reduceDiv, Nat.reduceMod, Nat.reduceLeDiff, Nat.reduceLT, Nat.reduceBEq, Int.reduceEq, Int.reduceBEq, Int.reduceBNe, Int.reduceLT, Int.reduceLE, Int.reduceAdd, Int.reduceSub, Int.reduceNeg, Int.reduceToNat, Int.reducePow, Nat.reducePow, Int.reduceMul, Int.reduceDiv, ↓s_rows_Read_b0, w1, f4, g4, ↓bl0, hH5, f5, lr, e6]
    have z : ∀ K : K, l_rows_Read_0 (.string (mk key)) (.string (mk val)) (.pointer (some ⟨H.n, 0, none⟩)) (.slice none 0 0) w (.int .i64 2) (.int .i64 0) H2 (blkK [1, 2, 3, 8] 0 K) = K .ret [(6, .slice none 0 0), (7, .int .i64 12)] H6 := fun K => by
      have := z1 K
      rw [r_rows_Read_0]
      simp (disch := first | with_reducible rfl | assumption | omega | rfl | (simp only [go_sem]; first | done | omega)) only [go_sem, ↓reduceIte, reduceCtorEq, Nat.reduceEqDiff, Nat.reduceAdd, Nat.reduceSub, Nat.reduceMul, Nat.reduceDiv, Nat.reduceMod, Nat.reduceLeDiff, Nat.reduceLT, Nat.reduceBEq, Int.reduceEq, Int.reduceBEq, Int.reduceBNe, Int.reduceLT, Int.reduceLE, Int.reduceAdd, Int.reduceSub, Int.reduceNeg, Int.reduceToNat, Int.reducePow, Nat.reducePow, Int.reduceMul, Int.reduceDiv, ↓s_rows_Read_b0, w0, f2, g2, ↓bl0, hH3, f3, lk, e4]
      exact this
    apply pure_of _ (d_rows_Read _ _ _ H) rfl
    rotate_left 2
    · simp (disch := first | with_reducible rfl | assumption | omega | rfl | (simp only [go_sem]; first | done | omega)) only [go_sem, ↓reduceIte, reduceCtorEq, Nat.reduceEqDiff, Nat.reduceAdd, Nat.reduceSub, Nat.reduceMul, Nat.reduceDiv, Nat.reduceMod, Nat.reduceLeDiff, Nat.reduceLT, Nat.reduceBEq, Int.reduceEq, Int.reduceBEq, Int.reduceBNe, Int.reduceLT, Int.reduceLE, Int.reduceAdd, Int.reduceSub, Int.reduceNeg, Int.reduceToNat, Int.reducePow, Nat.reducePow, Int.reduceMul, Int.reduceDiv, ↓s_rows_Read, hH1, f1, ↓enterK_eq m1, enterK_eq m1, bl_mk, hne, a1, hH2, hw, wl, z]
      rfl
    · exact s03.trans s6
  | some lb =>
  obtain ⟨vb, H6, so6, e6⟩ := p2 lb hb
  have e6 : ∀ K : K, l_rows_Read_1 (.string (mk key)) (.string (mk val)) (.pointer (some ⟨H.n, 0, none⟩)) va (.string (mk val)) w (.int .i64 2) (.int .i64 1) rv (.int .i64 (rl.length : Int)) (.int .i64 0) H5 (blkK [1, 2, 3, 8, 27, 28, 29] 2 K) = K .normal [(1, .string (mk key)), (2, .string (mk val)), (3, .pointer (some ⟨H.n, 0, none⟩)), (8, vb), (27, w), (28, .int .i64 2), (29, .int .i64 1)] H6 := e6
  obtain ⟨hlb, hcb⟩ := takesP_ok rl val lb hvl hb
  have eP : readP kl rl kt val = some (la ++ lb) := by unfold readP; rw [ha, hb]; rfl
  obtain ⟨L, hL⟩ : ∃ L, la ++ lb = L := ⟨_, rfl⟩
  have hLl : 1 ≤ L.length ∧ L.length ≤ 100 := by rw [← hL, List.length_append]; omega
  have hLc : ∀ x ∈ L, CellOk x := fun x hx => by
    rw [← hL] at hx
    rcases List.mem_append.1 hx with h | h
    · exact hca x h
    · exact hcb x h
  rw [hL] at eP so6
  rw [eP] at eR
  have eR : readR n kl rl key val = if rowR n kl rl L = (key, val, 0) then (L, 0) else ([], 12) := eR
  have s06 : Still H H6 := s03.trans so6.still
  have g6 : H6.f H.n = .cells [.int .i64 n, kv, rv] T.api_Table true := by rw [(s3.trans so6.still).f (by omega) fun h => h]; exact g2
  have z2 : ∀ K : K, l_rows_Read_0 (.string (mk key)) (.string (mk val)) (.pointer (some ⟨H.n, 0, none⟩)) vb w (.int .i64 2) (.int .i64 2) H6 (blkK [1, 2, 3, 8] 0 K) = K .normal [(1, .string (mk key)), (2, .string (mk val)), (3, .pointer (some ⟨H.n, 0, none⟩)), (8, vb)] H6 := fun K => by
    rw [r_rows_Read_0]
    simp (disch := first | with_reducible rfl | assumption | omega | rfl | (simp only [go_sem]; first | done | omega)) only [go_sem, ↓reduceIte, reduceCtorEq, Nat.reduceEqDiff, Nat.reduceAdd, Nat.reduceSub, Nat.reduceMul, Nat.reduceDiv, Nat.reduceMod, Nat.reduceLeDiff, Nat.reduceLT, Nat.reduceBEq, Int.reduceEq, Int.reduceBEq, Int.reduceBNe, Int.reduceLT, Int.reduceLE, Int.reduceAdd, Int.reduceSub, Int.reduceNeg, Int.reduceToNat, Int.reducePow, Nat.reducePow, Int.reduceMul, Int.reduceDiv, ↓s_rows_Read_b0]
  have z1 : ∀ K : K, l_rows_Read_0 (.string (mk key)) (.string (mk val)) (.pointer (some ⟨H.n, 0, none⟩)) va w (.int .i64 2) (.int .i64 1) H4 (blkK [1, 2, 3, 8] 0 K) = K .normal [(1, .string (mk key)), (2, .string (mk val)), (3, .pointer (some ⟨H.n, 0, none⟩)), (8, vb)] H6 := fun K => by
    have := z2 K
    rw [r_rows_Read_0]
    simp (disch := first | with_reducible rfl | assumption | omega | rfl | (simp only [go_sem]; first | done | omega)) only [go_sem, ↓reduceIte, reduceCtorEq, Nat.reduceEqDiff, Nat.reduceAdd, Nat.reduceSub, Nat.reduceMul, Nat.reduceDiv, Nat.reduceMod, Nat.reduceLeDiff, Nat.reduceLT, Nat.reduceBEq, Int.reduceEq, Int.reduceBEq, Int.reduceBNe, Int.reduceLT, Int.reduceLE, Int.reduceAdd, Int.reduceSub, Int.reduceNeg, Int.reduceToNat, Int.reducePow, Nat.reducePow, Int.reduceMul, Int.reduceDiv, ↓s_rows_Read_b0, w1, f4, g4, ↓bl0, hH5, f5, lr, e6]
    exact this
  have z : ∀ K : K, l_rows_Read_0 (.string (mk key)) (.string (mk val)) (.pointer (some ⟨H.n, 0, none⟩)) (.slice none 0 0) w (.int .i64 2) (.int .i64 0) H2 (blkK [1, 2, 3, 8] 0 K) = K .normal [(1, .string (mk key)), (2, .string (mk val)), (3, .pointer (some ⟨H.n, 0, none⟩)), (8, vb)] H6 := fun K => by
    have := z1 K
    rw [r_rows_Read_0]
    simp (disch := first | with_reducible rfl | assumption | omega | rfl | (simp only [go_sem]; first | done | omega)) only [go_sem, ↓reduceIte, reduceCtorEq, Nat.reduceEqDiff, Nat.reduceAdd, Nat.reduceSub, Nat.reduceMul, Nat.reduceDiv, Nat.reduceMod, Nat.reduceLeDiff, Nat.reduceLT, Nat.reduceBEq, Int.reduceEq, Int.reduceBEq, Int.reduceBNe, Int.reduceLT, Int.reduceLE, Int.reduceAdd, Int.reduceSub, Int.reduceNeg, Int.reduceToNat, Int.reducePow, Nat.reducePow, Int.reduceMul, Int.reduceDiv, ↓s_rows_Read_b0, w0, f2, g2, ↓bl0, hH3, f3, lk, e4]
    exact this
  have m6 := q_Row' n kv rv kl rl L vb H6 (s06.ok ok) (hk.still s06) (hr.still s06) so6.own.sl hLl.2 hLc
  obtain ⟨⟨ra, rb, re⟩, hrow⟩ : ∃ y, rowR n kl rl L = y := ⟨_, rfl⟩
  rw [hrow] at m6 eR
  dsimp only at m6
  by_cases hre : re = 0
  · by_cases hra : ra = key
    · by_cases hrb : rb = val
      · have hre' : (re = 0) = True := by simp [hre]
        have hra' : (ra = key) = True := by simp [hra]
        have hrb' : (rb = val) = True := by simp [hrb]
        rw [if_pos (by rw [hre, hra, hrb])] at eR
        rw [eR]
        have hg : gr 9 (.tuple #[vb, .int .i64 0]) = false := by
          rcases so6.own with ⟨e, _⟩ | ⟨_, a, h, _⟩ | ⟨b', o', c', xs', h, _⟩
          · rw [e] at hLl; simp at hLl
          · rw [h]; rfl
          · rw [h]; rfl
        refine ⟨vb, H6, (d_rows_Read _ _ _ H ?_).trans (congrArg some (tidy_mem hg)), s06, so6.own, fun b h => Nat.le_trans s03.n (so6.new b h)⟩
        simp (disch := first | with_reducible rfl | assumption | omega | rfl | (simp only [go_sem]; first | done | omega)) only [go_sem, ↓reduceIte, reduceCtorEq, Nat.reduceEqDiff, Nat.reduceAdd, Nat.reduceSub, Nat.reduceMul, Nat.reduceDiv, Nat.reduceMod, Nat.reduceLeDiff, Nat.reduceLT, Nat.reduceBEq, Int.reduceEq, Int.reduceBEq, Int.reduceBNe, Int.reduceLT, Int.reduceLE, Int.reduceAdd, Int.reduceSub, Int.reduceNeg, Int.reduceToNat, Int.reducePow, Nat.reducePow, Int.reduceMul, Int.reduceDiv, ↓s_rows_Read, hH1, f1, ↓enterK_eq m1, enterK_eq m1, bl_mk, hne, a1, hH2, hw, wl, z, g6, ↓enterK_eq m6, enterK_eq m6, hre', hra', hrb']
      · rw [if_neg (fun e => hrb (by cases e; rfl))] at eR
        have hre' : (re = 0) = True := by simp [hre]
        have hra' : (ra = key) = True := by simp [hra]
        refine read_nil (kl := kl) (rl := rl) (e := 12) ?_ eR
        apply pure_of _ (d_rows_Read _ _ _ H) rfl
        rotate_left 2
        · simp (disch := first | with_reducible rfl | assumption | omega | rfl | (simp only [go_sem]; first | done | omega)) only [go_sem, ↓reduceIte, reduceCtorEq, Nat.reduceEqDiff, Nat.reduceAdd, Nat.reduceSub, Nat.reduceMul, Nat.reduceDiv, Nat.reduceMod, Nat.reduceLeDiff, Nat.reduceLT, Nat.reduceBEq, Int.reduceEq, Int.reduceBEq, Int.reduceBNe, Int.reduceLT, Int.reduceLE, Int.reduceAdd, Int.reduceSub, Int.reduceNeg, Int.reduceToNat, Int.reducePow, Nat.reducePow, Int.reduceMul, Int.reduceDiv, ↓s_rows_Read, hH1, f1, ↓enterK_eq m1, enterK_eq m1, bl_mk, hne, a1, hH2, hw, wl, z, g6, ↓enterK_eq m6, enterK_eq m6, hre', hra', hrb]
          rfl
        · exact s06
    · rw [if_neg (fun e => hra (by cases e; rfl))] at eR
      have hre' : (re = 0) = True := by simp [hre]
      refine read_nil (kl := kl) (rl := rl) (e := 12) ?_ eR
      apply pure_of _ (d_rows_Read _ _ _ H) rfl
      rotate_left 2
      · simp (disch := first | with_reducible rfl | assumption | omega | rfl | (simp only [go_sem]; first | done | omega)) only [go_sem, ↓reduceIte, reduceCtorEq, Nat.reduceEqDiff, Nat.reduceAdd, Nat.reduceSub, Nat.reduceMul, Nat.reduceDiv, Nat.reduceMod, Nat.reduceLeDiff, Nat.reduceLT, Nat.reduceBEq, Int.reduceEq, Int.reduceBEq, Int.reduceBNe, Int.reduceLT, Int.reduceLE, Int.reduceAdd, Int.reduceSub, Int.reduceNeg, Int.reduceToNat, Int.reducePow, Nat.reducePow, Int.reduceMul, Int.reduceDiv, ↓s_rows_Read, hH1, f1, ↓enterK_eq m1, enterK_eq m1, bl_mk, hne, a1, hH2, hw, wl, z, g6, ↓enterK_eq m6, enterK_eq m6, hre', hra]
        rfl
      · exact s06
  · rw [if_neg (fun e => hre (by cases e; rfl))] at eR
    refine read_nil (kl := kl) (rl := rl) (e := 12) ?_ eR
    apply pure_of _ (d_rows_Read _ _ _ H) rfl
    rotate_left 2
    · simp (disch := first | with_reducible rfl | assumption | omega | rfl | (simp only [go_sem]; first | done | omega)) only [go_sem, ↓reduceIte, reduceCtorEq, Nat.reduceEqDiff, Nat.reduceAdd, Nat.reduceSub, Nat.reduceMul, Nat.reduceDiv, Nat.reduceMod, Nat.reduceLeDiff, Nat.reduceLT, Nat.reduceBEq, Int.reduceEq, Int.reduceBEq, Int.reduceBNe, Int.reduceLT, Int.reduceLE, Int.reduceAdd, Int.reduceSub, Int.reduceNeg, Int.reduceToNat, Int.reducePow, Nat.reducePow, Int.reduceMul, Int.reduceDiv, ↓s_rows_Read, hH1, f1, ↓enterK_eq m1, enterK_eq m1, bl_mk, hne, a1, hH2, hw, wl, z, g6, ↓enterK_eq m6, enterK_eq m6, hre]
      rfl
    · exact s06

end Go.Proofs.YtlmhioanjmhaiaaDoor

/-
  Chapter 40: plain: take inverts the bytes of a cell; Read inverts Row.
  Conditions: none. By an AI agent.
-/
set_option maxRecDepth 10000
set_option linter.unusedSimpArgs false
set_option linter.unusedVariables false
namespace Go.Proofs.YtlmhioanjmhaiaaDoor
open Go Eng

theorem by8_nat {n : Nat} (h : n < 256) : (by8 n).toNat = n := by
  unfold by8; rw [UInt8.toNat_ofNat']; omega
theorem numF_app : ∀ (l : List UInt8) (c : UInt8) (a : Nat), numF a (l ++ [c]) = numF a l * 256 + c.toNat
  | [], _, _ => rfl
  | d :: l, c, a => numF_app l c (a * 256 + d.toNat)
theorem by8_toNat (n : Nat) : (by8 n).toNat = n % 256 := by unfold by8; rw [UInt8.toNat_ofNat']
theorem numF_dg : ∀ (k n : Nat), n < 256 ^ k → numF 0 (dg n) = n
  | 0, n, h => by
    have h : n < 1 := h
    have : n = 0 := by omega
    subst this; rw [dg_zero]; rfl
  | k + 1, n, h => by
    by_cases h0 : n = 0
    · subst h0; rw [dg_zero]; rfl
    · rw [dg_pos h0, numF_app, numF_dg k (n / 256) (by rw [Nat.pow_succ] at h; omega), by8_toNat]
      omega
theorem inv8_inv8 (c : UInt8) : inv8 (inv8 c) = c := by
  have h := c.toNat_lt
  apply UInt8.toNat_inj.1
  have : (inv8 c).toNat = 255 - c.toNat := by_nat (by omega)
  rw [show inv8 (inv8 c) = by8 (255 - (inv8 c).toNat) from rfl, by8_nat (by omega), this]
  omega
where by_nat {n : Nat} (h : n < 256) : (by8 n).toNat = n := by8_nat h
theorem numR_dg {n k : Nat} (h : n < 256 ^ 8) (r : List UInt8) (hk : k = (dg n).length) : numR (dg n ++ r) k false = some (n, r) := by
  subst hk
  have hl := dg_len 8 n h
  unfold numR
  rw [if_neg (by simp; omega), List.take_left' rfl, List.drop_left' rfl]
  show some (numF 0 (dg n), r) = _
  rw [numF_dg 8 n h]
theorem numR_inv {n k : Nat} (h : n < 256 ^ 8) (r : List UInt8) (hk : k = (dg n).length) : numR ((dg n).map inv8 ++ r) k true = some (n, r) := by
  subst hk
  have hl := dg_len 8 n h
  have hm : ((dg n).map inv8).length = (dg n).length := by simp
  unfold numR
  rw [if_neg (by simp; omega), List.take_left' hm, List.drop_left' hm]
  show some (numF 0 (((dg n).map inv8).map inv8), r) = _
  have : ((dg n).map inv8).map inv8 = dg n := by
    rw [List.map_map]
    have : inv8 ∘ inv8 = id := funext inv8_inv8
    rw [this, List.map_id]
  rw [this, numF_dg 8 n h]

theorem une_esc : ∀ l : List UInt8, une (esc l) = l
  | [] => rfl
  | c :: l => by
    by_cases h : c = 0
    · subst h
      simp only [esc, if_true]
      rw [une, if_pos ⟨rfl, rfl⟩, une_esc l]
    · simp only [esc, h, if_false]
      rw [une_other (by simp [List.isPrefixOf]; intro e; exact absurd e.symm h), une_esc l]
theorem index_esc : ∀ (l r : List UInt8), Lib.index (esc l ++ 0 :: 1 :: r) [0, 1] = ((esc l).length : Int)
  | [], r => by
    show Lib.index (0 :: 1 :: r) [0, 1] = 0
    exact index_pre (by simp [List.isPrefixOf])
  | c :: l, r => by
    have ih := index_esc l r
    by_cases h : c = 0
    · subst h
      simp only [esc, if_true, List.cons_append, List.length_cons]
      rw [index_npre (by simp [List.isPrefixOf]), index_npre (by simp [List.isPrefixOf]), ih]
      simp only [show ¬ (((esc l).length : Int) = -1) by omega, if_false, show ¬ (((esc l).length : Int) + 1 = -1) by omega]
      omega
    · simp only [esc, h, if_false, List.cons_append, List.length_cons]
      rw [index_npre (by simp [List.isPrefixOf]; intro e; exact absurd e.symm h), ih]
      simp only [show ¬ (((esc l).length : Int) = -1) by omega, if_false]
      omega
theorem tkT_esc (l r : List UInt8) : tkT (esc l ++ 0 :: 1 :: r) = (⟨3, 0, 0, mk l, false⟩, r, true) := by
  unfold tkT
  rw [index_esc, if_neg (by omega), Int.toNat_natCast, List.take_left' rfl, replaceAll_une, une_esc]
  congr 2
  rw [List.drop_append, List.drop_eq_nil_of_le (by omega), show (esc l).length + 2 - (esc l).length = 2 by omega]
  rfl

theorem mk_nil {s : ByteArray} (h : bl s = []) : s = mk [] := bl_inj (by rw [h, bl_mk])
theorem enc_ne {c : Cl} (h : CellOk c) : enc c ≠ [] := (enc_len h).2
theorem tk_cons (k : Int) (c : UInt8) (s : List UInt8) : tk k (c :: s) = tkC k c s := rfl

/-- take gives back the cell whose bytes a string begins with. -/
theorem tk_enc {c : Cl} {k : Int} (hk : kindP k = true) (hc : CellOk c) (hp : properP c k = true) (r : List UInt8) : tk k (enc c ++ r) = (c, r, true) := by
  obtain ⟨k1, u1, i1, s1, b1⟩ := c
  unfold properP at hp
  simp only [decide_eq_true_eq] at hp
  obtain ⟨rfl, hu, hi, hs, hb⟩ := hp
  obtain ⟨⟨hu0, hu1⟩, ⟨hi0, hi1⟩, hsl⟩ := hc
  dsimp only at hu0 hu1 hi0 hi1 hsl
  have p8 : (256 : Nat) ^ 8 = 18446744073709551616 := by decide
  unfold enc
  dsimp only
  by_cases h1 : k1 = 1
  · subst h1
    have hi := hi.resolve_left (by decide); have hs := mk_nil (hs.resolve_left (by decide)); have hb := hb.resolve_left (by decide)
    subst hi hs hb
    have hl := dg_len 8 u1.toNat (by omega)
    rw [if_pos rfl, List.cons_append, tk_cons]
    unfold tkC
    rw [if_pos rfl, by8_nat (by omega), numR_dg (by omega) r rfl]
    show ((⟨1, ((u1.toNat : Nat) : Int), 0, mk [], false⟩ : Cl), r, true) = _
    rw [show ((u1.toNat : Nat) : Int) = u1 by omega]
  rw [if_neg h1]
  have hu := hu.resolve_left h1
  subst hu
  by_cases h2 : k1 = 2
  · subst h2
    have hs := mk_nil (hs.resolve_left (by decide)); have hb := hb.resolve_left (by decide)
    subst hs hb
    rw [if_pos rfl]
    by_cases h0 : 0 ≤ i1
    · have hl := dg_len 8 i1.toNat (by omega)
      rw [if_pos h0, List.cons_append, tk_cons]
      unfold tkC
      rw [if_neg (by decide), if_pos rfl, by8_nat (by omega), if_pos (by omega), show 128 + (dg i1.toNat).length - 128 = (dg i1.toNat).length by omega, numR_dg (by omega) r rfl]
      show ((⟨2, 0, IntKind.wrap .i64 ((i1.toNat : Nat) : Int), mk [], false⟩ : Cl), r, true) = _
      rw [show ((i1.toNat : Nat) : Int) = i1 by omega, wrap_i64 ⟨by omega, by omega⟩]
    · obtain ⟨j, hj⟩ : ∃ j : Nat, -(i1 + 1) = j := ⟨(-(i1 + 1)).toNat, by omega⟩
      rw [hj, Int.toNat_natCast]
      have hl := dg_len 8 j (by omega)
      rw [if_neg h0, List.cons_append, tk_cons]
      unfold tkC
      rw [if_neg (by decide), if_pos rfl, by8_nat (by omega), if_neg (by omega), show 127 - (127 - (dg j).length) = (dg j).length by omega, numR_inv (by omega) r rfl]
      show ((⟨2, 0, IntKind.wrap .i64 (IntKind.wrap .i64 (-(IntKind.wrap .i64 (j : Int))) - 1), mk [], false⟩ : Cl), r, true) = _
      rw [wrap_i64 (n := (j : Int)) ⟨by omega, by omega⟩, wrap_i64 (n := -(j : Int)) ⟨by omega, by omega⟩, wrap_i64 (n := -(j : Int) - 1) ⟨by omega, by omega⟩, show -(j : Int) - 1 = i1 by omega]
  rw [if_neg h2]
  have hi := hi.resolve_left h2
  subst hi
  by_cases h3 : k1 = 3
  · subst h3
    have hb := hb.resolve_left (by decide)
    subst hb
    rw [if_pos rfl]
    obtain ⟨x, t, hx⟩ : ∃ x t, esc (bl s1) ++ [0, 1] ++ r = x :: t := by
      cases he : esc (bl s1) with
      | nil => exact ⟨_, _, rfl⟩
      | cons a b => exact ⟨_, _, rfl⟩
    have e := tkT_esc (bl s1) r
    have : esc (bl s1) ++ 0 :: 1 :: r = esc (bl s1) ++ [0, 1] ++ r := by simp
    rw [this, hx] at e
    rw [hx, tk_cons]
    unfold tkC
    rw [if_neg (by decide), if_neg (by decide), if_pos rfl, e, mk_bl]
  rw [if_neg h3]
  have hs := mk_nil (hs.resolve_left h3)
  subst hs
  have h4 : k1 = 4 := by
    unfold kindP at hk
    simp only [Bool.and_eq_true, decide_eq_true_eq] at hk
    omega
  subst h4
  cases b1 with
  | true =>
    rw [if_pos rfl, List.cons_append, tk_cons]
    unfold tkC
    rw [if_neg (by decide), if_neg (by decide), if_neg (by decide)]
    rfl
  | false =>
    rw [if_neg (by decide), List.cons_append, tk_cons]
    unfold tkC
    rw [if_neg (by decide), if_neg (by decide), if_neg (by decide)]
    rfl

theorem takesP_enc : ∀ (ks : List Int) (l : List Cl) (r : List UInt8), (∀ k ∈ ks, kindP k = true) → (∀ c ∈ l, CellOk c) → areP l ks = true → takesP ks (encs l ++ r) = some l
  | [], [], _, _, _, _ => rfl
  | [], _ :: _, _, _, _, h => by simp [areP] at h
  | _ :: _, [], _, _, _, h => by simp [areP] at h
  | k :: ks, c :: l, r, hk, hc, h => by
    have h : l.length = ks.length ∧ properP c k = true ∧ are2 l ks = true := by
      unfold areP at h
      simp only [List.length_cons, are2, Bool.and_eq_true, decide_eq_true_eq] at h
      exact ⟨by omega, h.2.1, h.2.2⟩
    have ih := takesP_enc ks l r (fun x hx => hk x (by simp [hx])) (fun x hx => hc x (by simp [hx])) (by unfold areP; simp [h.1, h.2.2])
    have e := tk_enc (hk k (by simp)) (hc c (by simp)) h.2.1 (encs l ++ r)
    rw [encs, List.append_assoc, takesP, e]
    simp only [if_true, ih, Option.map_some]

theorem are2_split : ∀ (l : List Cl) (a b : List Int), l.length = a.length + b.length → are2 l (a ++ b) = (are2 (l.take a.length) a && are2 (l.drop a.length) b)
  | l, [], b, h => by simp [are2]
  | [], k :: a, b, h => by exfalso; simp only [List.length_nil, List.length_cons] at h; omega
  | c :: l, k :: a, b, h => by
    show (properP c k && are2 l (a ++ b)) = _
    rw [are2_split l a b (by simp at h; omega)]
    simp [are2, Bool.and_assoc]
theorem areP_split {l : List Cl} {a b : List Int} (h : areP l (a ++ b) = true) : areP (l.take a.length) a = true ∧ areP (l.drop a.length) b = true ∧ l.length = a.length + b.length := by
  unfold areP at h
  simp only [Bool.and_eq_true, decide_eq_true_eq, List.length_append] at h
  have h2 := h.2
  rw [are2_split l a b h.1, Bool.and_eq_true] at h2
  unfold areP
  refine ⟨?_, ?_, h.1⟩
  · simp only [Bool.and_eq_true, decide_eq_true_eq, List.length_take]; exact ⟨by omega, h2.1⟩
  · simp only [Bool.and_eq_true, decide_eq_true_eq, List.length_drop]; exact ⟨by omega, h2.2⟩

theorem rowR_ok {n : Int} {kl rl : List Int} {l : List Cl} {key val : List UInt8} (h : rowR n kl rl l = (key, val, 0)) : rowOk n kl rl l = true ∧ key = keyB n kl l ∧ val = valB kl l ∧ (keyB n kl l).length ≤ 24 ∧ (valB kl l).length ≤ 40 := by
  unfold rowR at h
  split at h
  · rename_i h1
    split at h
    · cases h
    · rename_i h2
      cases h
      exact ⟨h1, rfl, rfl, by omega, by omega⟩
  · cases h
/-- Read inverts Row. -/
theorem readR_row {n : Int} {kl rl : List Int} {l : List Cl} {key val : List UInt8} (hc : ∀ c ∈ l, CellOk c) (h : rowR n kl rl l = (key, val, 0)) : readR n kl rl key val = (l, 0) := by
  obtain ⟨h1, h2, h3, _, _⟩ := rowR_ok h
  unfold rowOk at h1
  simp only [Bool.and_eq_true] at h1
  obtain ⟨hv, ha⟩ := h1
  obtain ⟨hk, hr, _⟩ := okk hv
  obtain ⟨ha1, ha2, hl⟩ := areP_split ha
  unfold readR
  rw [if_pos hv]
  obtain ⟨x, hx⟩ : ∃ x, keyB n kl l = x := ⟨_, rfl⟩
  have e1 := takesP_enc kl (l.take kl.length) [] hk (fun c h => hc c (List.mem_of_mem_take h)) ha1
  have e2 := takesP_enc rl (l.drop kl.length) [] hr (fun c h => hc c (List.mem_of_mem_drop h)) ha2
  rw [List.append_nil] at e1 e2
  have eP : readP kl rl (encs (l.take kl.length)) val = some l := by
    unfold readP
    rw [h3, show valB kl l = encs (l.drop kl.length) from rfl, e1, e2]
    simp
  subst h2
  unfold keyB at h ⊢
  simp only [eP]
  rw [if_pos h]

end Go.Proofs.YtlmhioanjmhaiaaDoor

/-
  Chapter 40: RowsSpans, its arguments.
  Conditions: none. By an AI agent.
-/
set_option maxRecDepth 10000
set_option linter.unusedSimpArgs false
set_option linter.unusedVariables false
namespace Go.Proofs.YtlmhioanjmhaiaaDoor
open Go Eng

structure Sl where
  a : Option Addr
  n : Nat
  c : Nat
def Sl.v (s : Sl) : Value := .slice s.a s.n s.c
structure Tb where
  n : Int
  k : Sl
  r : Sl
def ETb : Enc Tb := ⟨3, fun t => [.int .i64 t.n, t.k.v, t.r.v], fun _ => rfl, by decide, fun _ => rfl⟩

theorem decK {W : World} {H : Type} {enc : TypeId × Value → H} (_ : 0 < W.heap.size) {cs : List Value} {n : Nat} {y : DataW H × List MemPlace} (h : DataW.trod enc Tryd.prog W 0 (fun _ => true) true n T.api_CellKind cs = some y) (hl : cs.length = EK.w) :
    ∃ a : Int, cs.map (conv2 W.heap.size) = EK.enc a ∧ True := by
  obtain ⟨c, rfl⟩ : ∃ c, cs = [c] := by
    match cs, hl with
    | [c], _ => exact ⟨_, rfl⟩
  obtain ⟨i, rfl, _⟩ := dec_int Tryd.underlying41 h
  exact ⟨i, rfl, trivial⟩
theorem decKS {W : World} {H : Type} {enc : TypeId × Value → H} {c : Value} {n : Nat} {y : DataW H × List MemPlace} (hp : 0 < W.heap.size ∨ ∀ a, c ≠ .slice (some a) 0 0) (h : DataW.trod enc Tryd.prog W 0 (fun _ => true) true n T.sl_api_CellKind [c] = some y) :
    ∃ s : Sl, conv2 W.heap.size c = s.v ∧ ∃ l, KR (absHeap2 W) s.v l := by
  obtain ⟨v, l, e, h1, _⟩ := open_cell2 (E := EK) (R := fun _ => True) (e' := T.api_CellKind) Tryd.underlying22 (by kernel_rfl) (fun hp cs n y h hl => decK hp h hl) (hp.imp id fun h a e => h a (List.cons.inj e).1) h
  obtain rfl : c = v := (List.cons.inj e).1
  obtain ⟨a, cc, e2⟩ := h1.1.shape
  exact ⟨⟨a, l.length, cc⟩, e2, l, by show KR _ (Value.slice a l.length cc) l; rw [← e2]; exact h1⟩
theorem decTb {W : World} {H : Type} {enc : TypeId × Value → H} {cs : List Value} {n : Nat} {y : DataW H × List MemPlace} (hp : 0 < W.heap.size ∨ ∀ c, c ∈ cs → ∀ a, c ≠ .slice (some a) 0 0) (h : DataW.trod enc Tryd.prog W 0 (fun _ => true) true n T.api_Table cs = some y) (hl : cs.length = ETb.w) :
    ∃ a : Tb, cs.map (conv2 W.heap.size) = ETb.enc a ∧ ((∃ kl, KR (absHeap2 W) a.k.v kl) ∧ ∃ rl, KR (absHeap2 W) a.r.v rl) := by
  have ht := Tryd.underlying24
  obtain ⟨c0, c1, c2, rfl⟩ : ∃ c0 c1 c2, cs = [c0, c1, c2] := by
    match cs, hl with
    | [c0, c1, c2], _ => exact ⟨_, _, _, rfl⟩
  obtain ⟨m0, z0, h0⟩ := dec_field ht h (i := 0) rfl rfl (by kernel_rfl) rfl
  obtain ⟨m1, z1, h1⟩ := dec_field ht h (i := 1) rfl rfl (by kernel_rfl) rfl
  obtain ⟨m2, z2, h2⟩ := dec_field ht h (i := 2) rfl rfl (by kernel_rfl) rfl
  obtain ⟨s0, rfl, _⟩ := dec_int Tryd.underlying3 h0
  obtain ⟨s1, e1, r1⟩ := decKS (hp.imp id fun h a => h c1 (by simp) a) h1
  obtain ⟨s2, e2, r2⟩ := decKS (hp.imp id fun h a => h c2 (by simp) a) h2
  refine ⟨⟨s0, s1, s2⟩, ?_, r1, r2⟩
  show [conv2 _ (.int .i64 s0), conv2 _ c1, conv2 _ c2] = [.int .i64 s0, s1.v, s2.v]
  rw [e1, e2]
  rfl

def NumOk (c : Cl) : Prop := (0 ≤ c.u ∧ c.u < 18446744073709551616) ∧ (-9223372036854775808 ≤ c.i ∧ c.i < 9223372036854775808)
theorem decClN {W : World} {H : Type} {enc : TypeId × Value → H} (_ : 0 < W.heap.size) {cs : List Value} {n : Nat} {y : DataW H × List MemPlace} (h : DataW.trod enc Tryd.prog W 0 (fun _ => true) true n T.api_Cell cs = some y) (hl : cs.length = ECl.w) :
    ∃ a : Cl, cs.map (conv2 W.heap.size) = ECl.enc a ∧ NumOk a := by
  have ht := Tryd.underlying44
  obtain ⟨c0, c1, c2, c3, c4, rfl⟩ : ∃ c0 c1 c2 c3 c4, cs = [c0, c1, c2, c3, c4] := by
    match cs, hl with
    | [c0, c1, c2, c3, c4], _ => exact ⟨_, _, _, _, _, rfl⟩
  obtain ⟨m0, z0, h0⟩ := dec_field ht h (i := 0) rfl rfl (by kernel_rfl) rfl
  obtain ⟨m1, z1, h1⟩ := dec_field ht h (i := 1) rfl rfl (by kernel_rfl) rfl
  obtain ⟨m2, z2, h2⟩ := dec_field ht h (i := 2) rfl rfl (by kernel_rfl) rfl
  obtain ⟨m3, z3, h3⟩ := dec_field ht h (i := 3) rfl rfl (by kernel_rfl) rfl
  obtain ⟨m4, z4, h4⟩ := dec_field ht h (i := 4) rfl rfl (by kernel_rfl) rfl
  obtain ⟨s0, rfl, _⟩ := dec_int Tryd.underlying41 h0
  obtain ⟨s1, rfl, w1⟩ := dec_int Tryd.underlying42 h1
  obtain ⟨s2, rfl, w2⟩ := dec_int Tryd.underlying3 h2
  obtain ⟨s3, rfl, _⟩ := dec_str Tryd.underlying9 h3
  obtain ⟨s4, rfl⟩ : ∃ b, c4 = .bool b := by
    obtain ⟨b, hb, _⟩ := DataW.trod_bool Tryd.underlying4 h4
    exact ⟨b, (List.cons.inj hb).1⟩
  refine ⟨⟨s0, s1, s2, s3, s4⟩, rfl, ?_, wf_i64 w2⟩
  simp [Lit.wf, IntKind.min, IntKind.max, IntKind.signed, IntKind.bits] at w1
  show 0 ≤ s1 ∧ s1 < 18446744073709551616
  omega

theorem run_RowsSpans (W : World) (v0 : Value) (a : Tb) (h0 : v0 = .agg ⟨ETb.enc a⟩) (hR : (∃ kl, KR (absHeap2 W) a.k.v kl) ∧ ∃ rl, KR (absHeap2 W) a.r.v rl)
    (v : Value) (l : List Cl) (r : RdS ECl T.api_Cell (absHeap2 W) v l) (hn : ∀ x, x ∈ l → NumOk x) (_ : l.length ≤ maxLen) :
    ∃ k H', dCall Tryd.prog prims1 hints k F.law_RowsSpans [v0, v] (absHeap2 W) = some (.bool true, H') := by
  subst h0
  obtain ⟨⟨kl, hk⟩, rl, hr⟩ := hR
  obtain ⟨H', h⟩ := q_RowsSpans a.n a.k.v a.r.v kl rl l v (absHeap2 W) (fun _ => Nat.zero_lt_one) hk hr r.1 hn
  obtain ⟨k, h⟩ := D_run h
  exact ⟨k, _, h⟩

end Go.Proofs.YtlmhioanjmhaiaaDoor

/-
  The seat's functions as terms over the engine's combinators (a program of ours printed it).
  Conditions: none. By an AI agent.
-/
set_option linter.unusedVariables false
namespace Go.Proofs.YtlmhioanjmhaiaaDoor
open Go Eng

/-! ticketline.ticketlinelaw40.RowsWrites -/

noncomputable def s_law_RowsWrites (mg : GT) (mc : CT) (ms : ST) (P : Program) (C : CallF) (a0 : Value) (a1 : Value) (H : AHeap) (K0 : K) : Res :=
bothK (newv T.api_Table a0 H) fun t2 h1 =>
bareK (ldN 3 h1 t2) h1 fun t8 h2 =>
enterK C F.law_small [t8, a1] h2 fun t10 h3 =>
bareK (xun P .not t10) h3 fun t11 h4 =>
mc t11 (fun k1 => enterK C F.law_known [] h4 fun t12 h5 =>
k1 .ret [(4, t12)] h5) (fun k1 =>
k1 .normal [(1, a1), (2, t2)] h4) (seqK (fun tT h6 =>
bareK (ldN 3 h6 (get tT 2)) h6 fun t13 h7 =>
enterK C F.rows_Valid [t13] h7 fun t14 h8 =>
bareK (ldN 3 h8 (get tT 2)) h8 fun t15 h9 =>
enterK C F.law_valid [t15] h9 fun t16 h10 =>
bareK (xbin P .neq T.bool (.tmp 14) (.tmp 16) t14 t16) h10 fun t17 h11 =>
checkK (okV (some true) (blockOf (get tT 2)) h7 h8 h8 h9 && true) <|
mc t17 (fun k2 => k2 .ret [(4, (.bool false))] h11) (fun k2 =>
k2 .normal [(1, (get tT 1)), (2, (get tT 2))] h11) (seqK (fun tT_1 h12 =>
bareK (ldN 3 h12 (get tT_1 2)) h12 fun t18 h13 =>
enterK C F.law_valid [t18] h13 fun t19 h14 =>
bareK (xun P .not t19) h14 fun t20 h15 =>
mg t20 false (fun o3 => bareK (ldN 3 h15 (get tT_1 2)) h15 o3) h15 fun t22 h16 =>
mg t20 false (fun o4 => o4 (get tT_1 1) h16) h16 fun t23 h17 =>
mg t20 false (fun o5 => enterK C F.law_first [t22, t23] h17 o5) h17 fun t24 h18 =>
mg t20 false (fun o6 => bareK (xun P .not t24) h18 o6) h18 fun t25 h19 =>
pickK t20 (.bool true) t25 fun t26 =>
mc t26 (fun k7 => bareK (ldN 3 h19 (get tT_1 2)) h19 fun t27 h20 =>
enterK C F.law_row [t27, (get tT_1 1), (.string (mk [])), (.string (mk [])), (.int .i64 2)] h20 fun t29 h21 =>
mg t29 true (fun o8 => bareK (ldN 3 h21 (get tT_1 2)) h21 o8) h21 fun t31 h22 =>
mg t29 true (fun o9 => o9 (get tT_1 1) h22) h22 fun t32 h23 =>
mg t29 true (fun o10 => enterK C F.law_keyed [t31, t32, (.string (mk [])), (.int .i64 2)] h23 o10) h23 fun t33 h24 =>
pickK t29 t33 (.bool false) fun t34 =>
mg t34 true (fun o11 => enterK C F.law_known [] h24 o11) h24 fun t36 h25 =>
pickK t34 t36 (.bool false) fun t37 =>
k7 .ret [(4, t37)] h25) (fun k7 =>
k7 .normal [(1, (get tT_1 1)), (2, (get tT_1 2))] h19) (seqK (fun tT_2 h26 =>
bareK (fad 0 (get tT_2 2)) h26 fun t38 h27 =>
bareK (ld1 h27 t38) h27 fun t39 h28 =>
bothK (xconv P T.int T.uint8 t39 h28) fun t40 h29 =>
bothK (bldL T.uint8 [(.int .u8 0)] 1 [(0, t40)] h29) fun t41 h30 =>
bothK (xconv P T.sl_uint8 T.string t41 h30) fun t42 h31 =>
ms (fun k12 =>
bareK (lenS (get tT_2 1)) h31 fun t45 h32 =>
bareK (fad 1 (get tT_2 2)) h32 fun t46 h33 =>
bareK (ld1 h33 t46) h33 fun t47 h34 =>
bareK (lenS t47) h34 fun t48 h35 =>
bareK (xbin P .neq T.int (.tmp 45) (.tmp 48) t45 t48) h35 fun t49 h36 =>
mc t49 (fun k13 => bareK (ldN 3 h36 (get tT_2 2)) h36 fun t50 h37 =>
enterK C F.law_keyed [t50, (get tT_2 1), (.string (mk [])), (.int .i64 2)] h37 fun t52 h38 =>
bareK (xun P .not t52) h38 fun t53 h39 =>
mc t53 (fun k14 => k14 .ret [(4, (.bool false))] h39) (fun k14 =>
k14 .normal [(1, (get tT_2 1)), (2, (get tT_2 2)), (5, t42)] h39) (afterK [1, 2, 5] k13)) (fun k13 =>
enterK C F.law_joined [t42, (get tT_2 1)] h36 fun t57 h40 =>
bareK (lenT t57) h40 fun t58 h41 =>
bareK (xbin P .gtr T.int (.tmp 58) (.const (.int .i64 24)) t58 (.int .i64 24)) h41 fun t59 h42 =>
mc t59 (fun k15 => bareK (ldN 3 h42 (get tT_2 2)) h42 fun t60 h43 =>
enterK C F.law_keyed [t60, (get tT_2 1), (.string (mk [])), (.int .i64 5)] h43 fun t62 h44 =>
bareK (xun P .not t62) h44 fun t63 h45 =>
mc t63 (fun k16 => k16 .ret [(4, (.bool false))] h45) (fun k16 =>
k16 .normal [(1, (get tT_2 1)), (2, (get tT_2 2)), (5, t42)] h45) (afterK [1, 2, 5] k15)) (fun k15 =>
bareK (ldN 3 h42 (get tT_2 2)) h42 fun t65 h46 =>
enterK C F.law_joined [t42, (get tT_2 1)] h46 fun t69 h47 =>
enterK C F.law_keyed [t65, (get tT_2 1), t69, (.int .i64 0)] h47 fun t70 h48 =>
bareK (xun P .not t70) h48 fun t71 h49 =>
checkK (okV (some true) (blockOf (get tT_2 2)) h46 h47 h42 h46 && (okV (some true) none h46 h47 h46 h46 && true)) <|
mc t71 (fun k17 => k17 .ret [(4, (.bool false))] h49) (fun k17 =>
k17 .normal [(1, (get tT_2 1)), (2, (get tT_2 2)), (5, t42)] h49) (afterK [1, 2, 5] k15)) (afterK [1, 2, 5] k13)) (blkK [1, 2, 5] 0 k12)) (seqK (fun tT_3 h50 =>
bareK (lenS (get tT_3 1)) h50 fun t73 h51 =>
bareK (fad 1 (get tT_3 2)) h51 fun t74 h52 =>
bareK (ld1 h52 t74) h52 fun t75 h53 =>
bareK (lenS t75) h53 fun t76 h54 =>
bareK (fad 2 (get tT_3 2)) h54 fun t77 h55 =>
bareK (ld1 h55 t77) h55 fun t78 h56 =>
bareK (lenS t78) h56 fun t79 h57 =>
bareK (xbin P .add T.int (.tmp 76) (.tmp 79) t76 t79) h57 fun t80 h58 =>
bareK (xbin P .neq T.int (.tmp 73) (.tmp 80) t73 t80) h58 fun t81 h59 =>
mc t81 (fun k18 => bareK (ldN 3 h59 (get tT_3 2)) h59 fun t82 h60 =>
enterK C F.law_row [t82, (get tT_3 1), (.string (mk [])), (.string (mk [])), (.int .i64 2)] h60 fun t84 h61 =>
mg t84 true (fun o19 => enterK C F.law_known [] h61 o19) h61 fun t86 h62 =>
pickK t84 t86 (.bool false) fun t87 =>
k18 .ret [(4, t87)] h62) (fun k18 =>
k18 .normal [(1, (get tT_3 1)), (2, (get tT_3 2)), (5, (get tT_3 5))] h59) (seqK (fun tT_4 h63 =>
bareK (fad 1 (get tT_4 2)) h63 fun t90 h64 =>
bareK (ld1 h64 t90) h64 fun t91 h65 =>
bareK (lenS t91) h65 fun t92 h66 =>
bareK (slS T.api_Cell 5 (get tT_4 1) none (some t92) none h66) h66 fun t93 h67 =>
enterK C F.law_joined [(get tT_4 5), t93] h67 fun t94 h68 =>
bareK (fad 1 (get tT_4 2)) h68 fun t96 h69 =>
bareK (ld1 h69 t96) h69 fun t97 h70 =>
bareK (lenS t97) h70 fun t98 h71 =>
bareK (slS T.api_Cell 5 (get tT_4 1) (some t98) none none h71) h71 fun t99 h72 =>
enterK C F.law_joined [(.string (mk [])), t99] h72 fun t100 h73 =>
checkK (okV (some true) none h67 h68 h68 h68 && (okV (some true) none h67 h68 h68 h69 && (okV (some true) (blockOf t96) h67 h68 h69 h70 && (okV (some true) none h67 h68 h70 h71 && (okV (some true) (blockOf (get tT_4 1)) h67 h68 h71 h72 && true))))) <|
bareK (lenT t94) h73 fun t102 h74 =>
bareK (xbin P .gtr T.int (.tmp 102) (.const (.int .i64 24)) t102 (.int .i64 24)) h74 fun t103 h75 =>
mg t103 false (fun o20 => o20 t100 h75) h75 fun t105 h76 =>
mg t103 false (fun o21 => bareK (lenT t105) h76 o21) h76 fun t106 h77 =>
mg t103 false (fun o22 => bareK (xbin P .gtr T.int (.tmp 106) (.const (.int .i64 40)) t106 (.int .i64 40)) h77 o22) h77 fun t107 h78 =>
pickK t103 (.bool true) t107 fun t108 =>
mc t108 (fun k23 => bareK (ldN 3 h78 (get tT_4 2)) h78 fun t109 h79 =>
enterK C F.law_row [t109, (get tT_4 1), (.string (mk [])), (.string (mk [])), (.int .i64 5)] h79 fun t111 h80 =>
mg t111 true (fun o24 => enterK C F.law_known [] h80 o24) h80 fun t113 h81 =>
pickK t111 t113 (.bool false) fun t114 =>
k23 .ret [(4, t114)] h81) (fun k23 =>
k23 .normal [(1, (get tT_4 1)), (2, (get tT_4 2)), (6, t94), (7, t100)] h78) (seqK (fun tT_5 h82 =>
bareK (ldN 3 h82 (get tT_5 2)) h82 fun t115 h83 =>
enterK C F.law_row [t115, (get tT_5 1), (get tT_5 6), (get tT_5 7), (.int .i64 0)] h83 fun t119 h84 =>
mg t119 true (fun o25 => bareK (ldN 3 h84 (get tT_5 2)) h84 o25) h84 fun t121 h85 =>
mg t119 true (fun o26 => o26 (get tT_5 6) h85) h85 fun t122 h86 =>
mg t119 true (fun o27 => o27 (get tT_5 7) h86) h86 fun t123 h87 =>
mg t119 true (fun o28 => o28 (get tT_5 1) h87) h87 fun t124 h88 =>
mg t119 true (fun o29 => enterK C F.law_read [t121, t122, t123, t124, (.int .i64 0)] h88 o29) h88 fun t125 h89 =>
pickK t119 t125 (.bool false) fun t126 =>
mg t126 true (fun o30 => enterK C F.law_known [] h89 o30) h89 fun t128 h90 =>
pickK t126 t128 (.bool false) fun t129 =>
K0 .ret [(4, t129)] h90) K0)) K0)) K0)) K0)) K0)) K0)

theorem s_law_RowsWrites_eq (M : CombL) (C : CallF) (LP : LoopH) (a0 : Value) (a1 : Value) (H : AHeap) : dBodyL M Tryd.prog hints C LP F.law_RowsWrites [a0, a1] H = s_law_RowsWrites M.b.g M.c M.s Tryd.prog C a0 a1 H (endK Tryd.prog [.tmp 4]) := by kernel_rfl

end Go.Proofs.YtlmhioanjmhaiaaDoor

/-
  The equations of the seat's functions over calls in the limit (a program of ours printed it).
  Conditions: none. By an AI agent.
-/
set_option linter.unusedVariables false
namespace Go.Proofs.YtlmhioanjmhaiaaDoor
open Go Eng



theorem d_law_RowsWrites (a0 : Value) (a1 : Value) (H : AHeap) {r : Value × AHeap} (h : s_law_RowsWrites guardK condL shareL Tryd.prog CC a0 a1 H (endK Tryd.prog [.tmp 4]) = some r) : CC F.law_RowsWrites [a0, a1] H = some (tidy H r) := D_body (by kernel_rfl) ((s_law_RowsWrites_eq stdL CC limLP a0 a1 H).trans (Eq.trans (show s_law_RowsWrites stdL.b.g stdL.c stdL.s Tryd.prog CC a0 a1 H (endK Tryd.prog [.tmp 4]) = s_law_RowsWrites guardK condL shareL Tryd.prog CC a0 a1 H (endK Tryd.prog [.tmp 4]) by kernel_rfl) h))

end Go.Proofs.YtlmhioanjmhaiaaDoor

/-
  Chapter 40: the law's own read; RowsWrites.
  Conditions: none. By an AI agent.
-/
set_option maxRecDepth 10000
set_option linter.unusedSimpArgs false
set_option linter.unusedVariables false
namespace Go.Proofs.YtlmhioanjmhaiaaDoor
open Go Eng

theorem q_read (n : Int) (kv rv : Value) (kl rl : List Int) (key val : List UInt8) (l : List Cl) (w : Value) (e : Int) (H : AHeap) (ok : OkH H) (hk : KR H kv kl) (hr : KR H rv rl) (hw : Rd ECl H w l) (hkl : key.length ≤ 1000) (hvl : val.length ≤ 1000) (hl : l.length ≤ 1000) (h : readR n kl rl key val = (l, e)) :
    CC F.law_read [tbV n kv rv, .string (mk key), .string (mk val), w, .int .i64 e] H = some (.bool true, H) := by
  obtain ⟨H1, hH1⟩ : ∃ H1, H.push (.cells [.int .i64 n, kv, rv] T.api_Table true) = H1 := ⟨_, rfl⟩
  have s1 : Still H H1 := by rw [← hH1]; exact (Fr.refl H).push _
  have f1 : H1.f H.n = .cells [.int .i64 n, kv, rv] T.api_Table true := by rw [← hH1]; exact push_f_eq rfl
  obtain ⟨v', H2, m1, s2⟩ := q_Read n kv rv kl rl key val H1 (s1.ok ok) (hk.still s1) (hr.still s1) hkl hvl
  rw [h] at m1 s2
  have m1 : CC F.rows_Read [tbV n kv rv, .string (mk key), .string (mk val)] H1 = some (.tuple #[v', .int .i64 e], H2) := m1
  have s2 : SinceE ECl T.api_Cell H1 H2 v' l := s2
  have st := s1.trans s2.still
  have m2 := q_same l l v' w H2 s2.own.rd (hw.still st) hl
  rw [decide_eq_true rfl] at m2
  apply pure_of _ (d_law_read _ _ _ _ _ H) rfl
  rotate_left 2
  · simp (disch := first | with_reducible rfl | assumption | omega | rfl | (simp only [go_sem]; first | done | omega)) only [go_sem, ↓reduceIte, reduceCtorEq, Nat.reduceEqDiff, Nat.reduceAdd, Nat.reduceSub, Nat.reduceMul, Nat.reduceDiv, Nat.reduceMod, Nat.reduceLeDiff, Nat.reduceLT, Nat.reduceBEq, Int.reduceEq, Int.reduceBEq, Int.reduceBNe, Int.reduceLT, Int.reduceLE, Int.reduceAdd, Int.reduceSub, Int.reduceNeg, Int.reduceToNat, Int.reducePow, Nat.reducePow, Int.reduceMul, Int.reduceDiv, ↓s_law_read, hH1, f1, ↓enterK_eq m1, enterK_eq m1, ↓enterK_eq m2, enterK_eq m2]
    rfl
  · exact st

end Go.Proofs.YtlmhioanjmhaiaaDoor

/-
  Chapter 40: the law's own take: its loop over numbers.
  Conditions: none. By an AI agent.
-/
set_option maxRecDepth 10000
set_option linter.unusedSimpArgs false
set_option linter.unusedVariables false
namespace Go.Proofs.YtlmhioanjmhaiaaDoor
open Go Eng

theorem mulU {t : TypeId} {a b : Nat} (h : a * b < 18446744073709551616) : ∀ ox oy, xbin Tryd.prog .mul t ox oy (.int .u64 (a : Int)) (.int .u64 (b : Int)) = some (.int .u64 ((a * b : Nat) : Int)) := fun ox oy => by
  rw [xbin_mul, ← Int.natCast_mul, wrap_u64 ⟨by omega, by omega⟩]
theorem addU {t : TypeId} {a b : Nat} (h : a + b < 18446744073709551616) : ∀ ox oy, xbin Tryd.prog .add t ox oy (.int .u64 (a : Int)) (.int .u64 (b : Int)) = some (.int .u64 ((a + b : Nat) : Int)) := fun ox oy => by
  rw [xbin_add, ← Int.natCast_add, wrap_u64 ⟨by omega, by omega⟩]
theorem subU {t : TypeId} {a b : Nat} (hb : b ≤ a) (h : a < 18446744073709551616) : ∀ ox oy, xbin Tryd.prog .sub t ox oy (.int .u64 (a : Int)) (.int .u64 (b : Int)) = some (.int .u64 ((a - b : Nat) : Int)) := fun ox oy => by
  rw [xbin_sub, ← Int.ofNat_sub hb, wrap_u64 ⟨by omega, by omega⟩]

theorem p256 {i : Nat} (h : i ≤ 8) : 256 ^ i ≤ 18446744073709551616 ∧ 1 ≤ 256 ^ i := by
  have h1 : 256 ^ i ≤ 256 ^ 8 := Nat.pow_le_pow_right (by decide) h
  have h2 : (256 : Nat) ^ 8 = 18446744073709551616 := by decide
  have h3 : 0 < 256 ^ i := Nat.pow_pos (by decide)
  omega
theorem l_most (b : Nat) (hb : b ≤ 8) (H : AHeap) : ∀ d i, i + d = b → ∀ K : K, l_law_most_0 (.int .i64 (b : Int)) (.int .u64 ((256 ^ i - 1 : Nat) : Int)) (.int .i64 (i : Int)) H (blkK [3] 0 K) = K .normal [(3, .int .u64 ((256 ^ b - 1 : Nat) : Int))] H
  | 0, i, h, K => by
    have : i = b := by omega
    subst this
    have hlt : ¬ (i : Int) < (i : Int) := by omega
    rw [r_law_most_0]
    simp (disch := first | with_reducible rfl | assumption | omega | rfl | (simp only [go_sem]; first | done | omega)) only [go_sem, ↓reduceIte, reduceCtorEq, Nat.reduceEqDiff, Nat.reduceAdd, Nat.reduceSub, Nat.reduceMul, Nat.reduceDiv, Nat.reduceMod, Nat.reduceLeDiff, Nat.reduceLT, Nat.reduceBEq, Int.reduceEq, Int.reduceBEq, Int.reduceBNe, Int.reduceLT, Int.reduceLE, Int.reduceAdd, Int.reduceSub, Int.reduceNeg, Int.reduceToNat, Int.reducePow, Nat.reducePow, Int.reduceMul, Int.reduceDiv, ↓s_law_most_b0, hlt]
  | d + 1, i, h, K => by
    have hlt : (i : Int) < (b : Int) := by omega
    have ih := l_most b hb H d (i + 1) (by omega) K
    rw [Int.natCast_add] at ih
    have p := p256 (i := i + 1) (by omega)
    have hps : (256 : Nat) ^ (i + 1) = 256 ^ i * 256 := Nat.pow_succ ..
    have q := p256 (i := i) (by omega)
    have e1 : ∀ ox oy, xbin Tryd.prog .mul T.uint64 ox oy (.int .u64 ((256 ^ i - 1 : Nat) : Int)) (.int .u64 256) = some (.int .u64 (((256 ^ i - 1) * 256 : Nat) : Int)) := mulU (a := 256 ^ i - 1) (b := 256) (by omega)
    have e2 : ∀ ox oy, xbin Tryd.prog .add T.uint64 ox oy (.int .u64 (((256 ^ i - 1) * 256 : Nat) : Int)) (.int .u64 255) = some (.int .u64 ((256 ^ (i + 1) - 1 : Nat) : Int)) := by
      rw [show 256 ^ (i + 1) - 1 = (256 ^ i - 1) * 256 + 255 by omega]; exact addU (a := (256 ^ i - 1) * 256) (b := 255) (by omega)
    generalize (256 ^ i - 1 : Nat) = x at *
    generalize (256 ^ (i + 1) - 1 : Nat) = y at *
    rw [r_law_most_0]
    simp (disch := first | with_reducible rfl | assumption | omega | rfl | (simp only [go_sem]; first | done | omega)) only [go_sem, ↓reduceIte, reduceCtorEq, Nat.reduceEqDiff, Nat.reduceAdd, Nat.reduceSub, Nat.reduceMul, Nat.reduceDiv, Nat.reduceMod, Nat.reduceLeDiff, Nat.reduceLT, Nat.reduceBEq, Int.reduceEq, Int.reduceBEq, Int.reduceBNe, Int.reduceLT, Int.reduceLE, Int.reduceAdd, Int.reduceSub, Int.reduceNeg, Int.reduceToNat, Int.reducePow, Nat.reducePow, Int.reduceMul, Int.reduceDiv, ↓s_law_most_b0, hlt, e1, e2]
    exact ih
theorem q_most (b : Nat) (hb : b ≤ 8) (H : AHeap) : CC F.law_most [.int .i64 (b : Int)] H = some (.int .u64 ((256 ^ b - 1 : Nat) : Int), H) := by
  have z : ∀ K : K, l_law_most_0 (.int .i64 (b : Int)) (.int .u64 0) (.int .i64 0) H (blkK [3] 0 K) = K .normal [(3, .int .u64 ((256 ^ b - 1 : Nat) : Int))] H := l_most b hb H b 0 (by omega)
  apply pure_of _ (d_law_most _ H) rfl
  rotate_left 2
  · simp (disch := first | with_reducible rfl | assumption | omega | rfl | (simp only [go_sem]; first | done | omega)) only [go_sem, ↓reduceIte, reduceCtorEq, Nat.reduceEqDiff, Nat.reduceAdd, Nat.reduceSub, Nat.reduceMul, Nat.reduceDiv, Nat.reduceMod, Nat.reduceLeDiff, Nat.reduceLT, Nat.reduceBEq, Int.reduceEq, Int.reduceBEq, Int.reduceBNe, Int.reduceLT, Int.reduceLE, Int.reduceAdd, Int.reduceSub, Int.reduceNeg, Int.reduceToNat, Int.reducePow, Nat.reducePow, Int.reduceMul, Int.reduceDiv, ↓s_law_most, z]
    rfl
  · (repeat (first | exact Fr.refl _ | refine Fr.push ?_ _ | refine Fr.set ?_ _ _ (by intro h; first | omega | (simp only [go_sem] at h; omega))))

/-- One round of take's loop over numbers: the bytes up to the i-th one are n. -/
def lpS (k : Int) (s0 i n : Nat) (c : Cl) : Cl :=
  if k = 1 ∧ s0 = i then ⟨c.kind, n, c.i, c.s, c.b⟩
  else if k = 2 ∧ s0 = 128 + i then ⟨c.kind, c.u, IntKind.wrap .i64 (n : Int), c.s, c.b⟩
  else if k = 2 ∧ s0 + i = 127 then ⟨c.kind, c.u, IntKind.wrap .i64 (IntKind.wrap .i64 (-(IntKind.wrap .i64 ((256 ^ i - 1 - n : Nat) : Int))) - 1), c.s, c.b⟩
  else c
def lp (k : Int) (s0 : Nat) : Nat → Nat → Cl → List UInt8 → Cl
  | _, _, c, [] => c
  | i, n, c, x :: t => if 8 < i then c else lp k s0 (i + 1) (n * 256 + x.toNat) (lpS k s0 i (n * 256 + x.toNat) c) t

set_option maxHeartbeats 1000000 in
theorem l_take0 (s : List UInt8) (s0 : UInt8) (hs0 : s[0]? = some s0) (hl : s.length ≤ 1000) (k : Int) (p4 : Value) (b6 : Nat) : ∀ (t : List UInt8) (i n : Nat) (c : Cl) (H : AHeap), s.drop i = t → 1 ≤ i → i ≤ 9 → n < 256 ^ (i - 1) → H.f b6 = .cells c.l T.api_Cell true → b6 < H.n →
    ∃ H', H'.f b6 = .cells (lp k s0.toNat i n c t).l T.api_Cell true ∧ Fr (fun b => b = b6) H H' ∧ ∀ K : K, l_law_take_0 (.string (mk s)) (.int .i64 k) p4 (.pointer (some ⟨b6, 0, none⟩)) (.int .u64 (n : Int)) (.int .i64 (i : Int)) H (blkK [0, 1, 4, 6] 0 K) = K .normal [(0, .string (mk s)), (1, .int .i64 k), (4, p4), (6, .pointer (some ⟨b6, 0, none⟩))] H'
  | [], i, n, c, H, hx, h1, h9, hn, hf, hb => by
    have h : s.length ≤ i := List.drop_eq_nil_iff.1 hx
    have hlt : ¬ (i : Int) < (s.length : Int) := by omega
    refine ⟨H, hf, Fr.refl H, fun K => ?_⟩
    rw [r_law_take_0]
    simp (disch := first | with_reducible rfl | assumption | omega | rfl | (simp only [go_sem]; first | done | omega)) only [go_sem, ↓reduceIte, reduceCtorEq, Nat.reduceEqDiff, Nat.reduceAdd, Nat.reduceSub, Nat.reduceMul, Nat.reduceDiv, Nat.reduceMod, Nat.reduceLeDiff, Nat.reduceLT, Nat.reduceBEq, Int.reduceEq, Int.reduceBEq, Int.reduceBNe, Int.reduceLT, Int.reduceLE, Int.reduceAdd, Int.reduceSub, Int.reduceNeg, Int.reduceToNat, Int.reducePow, Nat.reducePow, Int.reduceMul, Int.reduceDiv, ↓s_law_take_b0, bl_mk, hlt]
  | x :: t, i, n, c, H, hx, h1, h9, hn, hf, hb => by
    obtain ⟨h, hxa, hx'⟩ := drop_cons hx
    have hlt : (i : Int) < (s.length : Int) := by omega
    by_cases h8 : 8 < i
    · have h8' : ¬ (i : Int) ≤ 8 := by omega
      refine ⟨H, ?_, Fr.refl H, fun K => ?_⟩
      · rw [lp, if_pos h8]; exact hf
      · rw [r_law_take_0]
        simp (disch := first | with_reducible rfl | assumption | omega | rfl | (simp only [go_sem]; first | done | omega)) only [go_sem, ↓reduceIte, reduceCtorEq, Nat.reduceEqDiff, Nat.reduceAdd, Nat.reduceSub, Nat.reduceMul, Nat.reduceDiv, Nat.reduceMod, Nat.reduceLeDiff, Nat.reduceLT, Nat.reduceBEq, Int.reduceEq, Int.reduceBEq, Int.reduceBNe, Int.reduceLT, Int.reduceLE, Int.reduceAdd, Int.reduceSub, Int.reduceNeg, Int.reduceToNat, Int.reducePow, Nat.reducePow, Int.reduceMul, Int.reduceDiv, ↓s_law_take_b0, bl_mk, hlt, h8']
    have h8' : (i : Int) ≤ 8 := by omega
    have p := p256 (i := i) (by omega)
    have hps : (256 : Nat) ^ i = 256 ^ (i - 1) * 256 := by
      have h := Nat.pow_succ (n := 256) (m := i - 1)
      rwa [show (i - 1).succ = i by omega] at h
    have hx8 := x.toNat_lt
    have hn2 : n * 256 + x.toNat < 256 ^ i := by rw [hps]; omega
    have hs8 := s0.toNat_lt
    have hs00 : ∃ h0 : 0 < s.length, s[0] = s0 := by
      cases s with
      | nil => simp at hs0
      | cons a b => simp at hs0; exact ⟨by simp, hs0⟩
    obtain ⟨h0, h00⟩ := hs00
    have ix := xix (s := mk s) (i := i) (by rw [bl_mk]; exact h)
    rw [show (bl (mk s))[i]'(by rw [bl_mk]; exact h) = x by simp [hxa]] at ix
    have ix0 := xix (s := mk s) (i := 0) (by rw [bl_mk]; exact h0)
    rw [show (bl (mk s))[0]'(by rw [bl_mk]; exact h0) = s0 by simp [h00]] at ix0
    have ix0 : xindex Tryd.prog T.string (.string (mk s)) (.int .i64 0) = some (.int .u8 (s0.toNat : Int)) := ix0
    have cvx := x_u8_u64 x
    have cv0 : ∀ H, xconv Tryd.prog T.uint8 T.int (.int .u8 (s0.toNat : Int)) H = some (.int .i64 (s0.toNat : Int), H) := fun H => by
      rw [x_uint8_int, wrap_i64 ⟨by omega, by omega⟩]
    have e1 : ∀ ox oy, xbin Tryd.prog .mul T.uint64 ox oy (.int .u64 (n : Int)) (.int .u64 256) = some (.int .u64 ((n * 256 : Nat) : Int)) := mulU (a := n) (b := 256) (by omega)
    have e2 : ∀ ox oy, xbin Tryd.prog .add T.uint64 ox oy (.int .u64 ((n * 256 : Nat) : Int)) (.int .u64 (x.toNat : Int)) = some (.int .u64 ((n * 256 + x.toNat : Nat) : Int)) := addU (a := n * 256) (b := x.toNat) (by omega)
    have e3 : ∀ ox oy, xbin Tryd.prog .add T.int ox oy (.int .i64 128) (.int .i64 (i : Int)) = some (.int .i64 (128 + (i : Int))) := fun ox oy => add_i64 (by omega)
    have e4 : ∀ ox oy, xbin Tryd.prog .sub T.int ox oy (.int .i64 127) (.int .i64 (i : Int)) = some (.int .i64 (127 - (i : Int))) := fun ox oy => sub_i64 (by omega)
    have e5 : ∀ ox oy, xbin Tryd.prog .add T.int ox oy (.int .i64 (i : Int)) (.int .i64 1) = some (.int .i64 ((i : Int) + 1)) := fun ox oy => add_i64 (by omega)
    obtain ⟨N, hN⟩ : ∃ N, n * 256 + x.toNat = N := ⟨_, rfl⟩
    rw [hN] at e2 hn2
    rw [lp, if_neg h8, hN]
    have ih := fun c H => l_take0 s s0 hs0 hl k p4 b6 t (i + 1) N c H hx' (by omega) (by omega) (by rw [show i + 1 - 1 = i by omega]; exact hn2)
    obtain ⟨ck, cu, ci, cs, cb⟩ := c
    unfold Cl.l at hf
    dsimp only at hf
    generalize (x.toNat : Int) = xi at *
    by_cases h1k : k = 1
    · have n2 : ¬ k = 2 := by omega
      by_cases hh : (s0.toNat : Int) = (i : Int)
      · obtain ⟨H1, hH1⟩ : ∃ H1, H.set b6 (.cells [.int .i64 ck, .int .u64 (N : Int), .int .i64 ci, .string cs, .bool cb] T.api_Cell true) = H1 := ⟨_, rfl⟩
        have g1 : H1.f b6 = .cells (Cl.l ⟨ck, N, ci, cs, cb⟩) T.api_Cell true := by rw [← hH1]; exact set_f_eq
        have n1 : b6 < H1.n := by rw [← hH1]; exact hb
        have fr : Fr (fun b => b = b6) H H1 := by rw [← hH1]; exact (Fr.refl H).set _ _ fun _ => rfl
        have eS : lpS k s0.toNat i N ⟨ck, cu, ci, cs, cb⟩ = ⟨ck, N, ci, cs, cb⟩ := by unfold lpS; rw [if_pos ⟨h1k, by omega⟩]
        rw [eS]
        obtain ⟨H', q1, q2, q3⟩ := ih _ H1 g1 n1
        refine ⟨H', q1, fr.trans q2, fun K => ?_⟩
        have := q3 K
        rw [Int.natCast_add] at this
        have h1k' : (k = 1) = True := by simp [h1k]
        have hh' : ((s0.toNat : Int) = (i : Int)) = True := by simp [hh]
        rw [r_law_take_0]
        simp (disch := first | with_reducible rfl | assumption | omega | rfl | (simp only [go_sem]; first | done | omega)) only [go_sem, ↓reduceIte, reduceCtorEq, Nat.reduceEqDiff, Nat.reduceAdd, Nat.reduceSub, Nat.reduceMul, Nat.reduceDiv, Nat.reduceMod, Nat.reduceLeDiff, Nat.reduceLT, Nat.reduceBEq, Int.reduceEq, Int.reduceBEq, Int.reduceBNe, Int.reduceLT, Int.reduceLE, Int.reduceAdd, Int.reduceSub, Int.reduceNeg, Int.reduceToNat, Int.reducePow, Nat.reducePow, Int.reduceMul, Int.reduceDiv, ↓s_law_take_b0, bl_mk, hlt, h8', ix, ↓cvx, e1, e2, h1k', n2, ix0, ↓cv0, hh', hf, hH1, e5]
        exact this
      · have eS : lpS k s0.toNat i N ⟨ck, cu, ci, cs, cb⟩ = ⟨ck, cu, ci, cs, cb⟩ := by
          unfold lpS; rw [if_neg (fun h => hh (by omega)), if_neg (fun h => n2 h.1), if_neg (fun h => n2 h.1)]
        rw [eS]
        obtain ⟨H', q1, q2, q3⟩ := ih ⟨ck, cu, ci, cs, cb⟩ H hf hb
        refine ⟨H', q1, q2, fun K => ?_⟩
        have := q3 K
        rw [Int.natCast_add] at this
        have h1k' : (k = 1) = True := by simp [h1k]
        rw [r_law_take_0]
        simp (disch := first | with_reducible rfl | assumption | omega | rfl | (simp only [go_sem]; first | done | omega)) only [go_sem, ↓reduceIte, reduceCtorEq, Nat.reduceEqDiff, Nat.reduceAdd, Nat.reduceSub, Nat.reduceMul, Nat.reduceDiv, Nat.reduceMod, Nat.reduceLeDiff, Nat.reduceLT, Nat.reduceBEq, Int.reduceEq, Int.reduceBEq, Int.reduceBNe, Int.reduceLT, Int.reduceLE, Int.reduceAdd, Int.reduceSub, Int.reduceNeg, Int.reduceToNat, Int.reducePow, Nat.reducePow, Int.reduceMul, Int.reduceDiv, ↓s_law_take_b0, bl_mk, hlt, h8', ix, ↓cvx, e1, e2, h1k', n2, ix0, ↓cv0, hh, e5]
        exact this
    by_cases h2k : k = 2
    · have h2k' : (k = 2) = True := by simp [h2k]
      by_cases hh : (s0.toNat : Int) = 128 + (i : Int)
      · obtain ⟨w, hw⟩ : ∃ w, IntKind.wrap .i64 (N : Int) = w := ⟨_, rfl⟩
        obtain ⟨H1, hH1⟩ : ∃ H1, H.set b6 (.cells [.int .i64 ck, .int .u64 cu, .int .i64 w, .string cs, .bool cb] T.api_Cell true) = H1 := ⟨_, rfl⟩
        have g1 : H1.f b6 = .cells (Cl.l ⟨ck, cu, w, cs, cb⟩) T.api_Cell true := by rw [← hH1]; exact set_f_eq
        have n1 : b6 < H1.n := by rw [← hH1]; exact hb
        have fr : Fr (fun b => b = b6) H H1 := by rw [← hH1]; exact (Fr.refl H).set _ _ fun _ => rfl
        have eS : lpS k s0.toNat i N ⟨ck, cu, ci, cs, cb⟩ = ⟨ck, cu, w, cs, cb⟩ := by unfold lpS; rw [if_neg (fun h => h1k h.1), if_pos ⟨h2k, by omega⟩, hw]
        rw [eS]
        obtain ⟨H', q1, q2, q3⟩ := ih _ H1 g1 n1
        refine ⟨H', q1, fr.trans q2, fun K => ?_⟩
        have := q3 K
        rw [Int.natCast_add] at this
        have hh' : ((s0.toNat : Int) = 128 + (i : Int)) = True := by simp [hh]
        have hh3 : ¬ ((s0.toNat : Int) = 127 - (i : Int)) := by omega
        have cw : ∀ H, xconv Tryd.prog T.uint64 T.int (.int .u64 (N : Int)) H = some (.int .i64 w, H) := fun H => by rw [x_uint64_int, hw]
        rw [r_law_take_0]
        simp (disch := first | with_reducible rfl | assumption | omega | rfl | (simp only [go_sem]; first | done | omega)) only [go_sem, ↓reduceIte, reduceCtorEq, Nat.reduceEqDiff, Nat.reduceAdd, Nat.reduceSub, Nat.reduceMul, Nat.reduceDiv, Nat.reduceMod, Nat.reduceLeDiff, Nat.reduceLT, Nat.reduceBEq, Int.reduceEq, Int.reduceBEq, Int.reduceBNe, Int.reduceLT, Int.reduceLE, Int.reduceAdd, Int.reduceSub, Int.reduceNeg, Int.reduceToNat, Int.reducePow, Nat.reducePow, Int.reduceMul, Int.reduceDiv, ↓s_law_take_b0, bl_mk, hlt, h8', ix, ↓cvx, e1, e2, h1k, h2k', ix0, ↓cv0, e3, e4, hh', hh3, ↓cw, cw, hf, hH1, e5]
        exact this
      · by_cases hh2 : (s0.toNat : Int) = 127 - (i : Int)
        · obtain ⟨i0, hi0⟩ : ∃ i0, IntKind.wrap .i64 ((256 ^ i - 1 - N : Nat) : Int) = i0 := ⟨_, rfl⟩
          obtain ⟨i1, hi1⟩ : ∃ i1, IntKind.wrap .i64 (-i0) = i1 := ⟨_, rfl⟩
          obtain ⟨w, hw⟩ : ∃ w, IntKind.wrap .i64 (i1 - 1) = w := ⟨_, rfl⟩
          obtain ⟨H1, hH1⟩ : ∃ H1, H.set b6 (.cells [.int .i64 ck, .int .u64 cu, .int .i64 w, .string cs, .bool cb] T.api_Cell true) = H1 := ⟨_, rfl⟩
          have g1 : H1.f b6 = .cells (Cl.l ⟨ck, cu, w, cs, cb⟩) T.api_Cell true := by rw [← hH1]; exact set_f_eq
          have n1 : b6 < H1.n := by rw [← hH1]; exact hb
          have fr : Fr (fun b => b = b6) H H1 := by rw [← hH1]; exact (Fr.refl H).set _ _ fun _ => rfl
          have eS : lpS k s0.toNat i N ⟨ck, cu, ci, cs, cb⟩ = ⟨ck, cu, w, cs, cb⟩ := by unfold lpS; rw [if_neg (fun h => h1k h.1), if_neg (fun h => hh (by omega)), if_pos ⟨h2k, by omega⟩, hi0, hi1, hw]
          rw [eS]
          obtain ⟨H', q1, q2, q3⟩ := ih _ H1 g1 n1
          refine ⟨H', q1, fr.trans q2, fun K => ?_⟩
          have := q3 K
          rw [Int.natCast_add] at this
          have hh' : ((s0.toNat : Int) = 127 - (i : Int)) = True := by simp [hh2]
          have mm := q_most i (by omega) H
          have sm : ∀ ox oy, xbin Tryd.prog .sub T.uint64 ox oy (.int .u64 ((256 ^ i - 1 : Nat) : Int)) (.int .u64 (N : Int)) = some (.int .u64 ((256 ^ i - 1 - N : Nat) : Int)) := subU (by omega) (by omega)
          have cu' : ∀ H, xconv Tryd.prog T.uint64 T.int (.int .u64 ((256 ^ i - 1 - N : Nat) : Int)) H = some (.int .i64 i0, H) := fun H => by rw [x_uint64_int, hi0]
          have ng : xun Tryd.prog .neg (.int .i64 i0) = some (.int .i64 i1) := by
            have : xun Tryd.prog .neg (.int .i64 i0) = some (.int .i64 (IntKind.wrap .i64 (-i0))) := by
              simp [xun, gr, pvg, pv, Op.unary, Op.intArith, Bind.bind, Sem.bind, Pure.pure]
            rw [this, hi1]
          have sv : ∀ ox oy, xbin Tryd.prog .sub T.int ox oy (.int .i64 i1) (.int .i64 1) = some (.int .i64 w) := fun ox oy => by rw [xbin_sub, hw]
          generalize ((256 ^ i - 1 - N : Nat) : Int) = z2 at *
          generalize ((256 ^ i - 1 : Nat) : Int) = z1 at *
          rw [r_law_take_0]
          simp (disch := first | with_reducible rfl | assumption | omega | rfl | (simp only [go_sem]; first | done | omega)) only [go_sem, ↓reduceIte, reduceCtorEq, Nat.reduceEqDiff, Nat.reduceAdd, Nat.reduceSub, Nat.reduceMul, Nat.reduceDiv, Nat.reduceMod, Nat.reduceLeDiff, Nat.reduceLT, Nat.reduceBEq, Int.reduceEq, Int.reduceBEq, Int.reduceBNe, Int.reduceLT, Int.reduceLE, Int.reduceAdd, Int.reduceSub, Int.reduceNeg, Int.reduceToNat, Int.reducePow, Nat.reducePow, Int.reduceMul, Int.reduceDiv, ↓s_law_take_b0, bl_mk, hlt, h8', ix, ↓cvx, e1, e2, h1k, h2k', ix0, ↓cv0, e3, e4, hh, hh', ↓enterK_eq mm, enterK_eq mm, sm, ↓cu', cu', ng, sv, hf, hH1, e5]
          exact this
        · have eS : lpS k s0.toNat i N ⟨ck, cu, ci, cs, cb⟩ = ⟨ck, cu, ci, cs, cb⟩ := by
            unfold lpS; rw [if_neg (fun h => h1k h.1), if_neg (fun h => hh (by omega)), if_neg (fun h => hh2 (by omega))]
          rw [eS]
          obtain ⟨H', q1, q2, q3⟩ := ih ⟨ck, cu, ci, cs, cb⟩ H hf hb
          refine ⟨H', q1, q2, fun K => ?_⟩
          have := q3 K
          rw [Int.natCast_add] at this
          rw [r_law_take_0]
          simp (disch := first | with_reducible rfl | assumption | omega | rfl | (simp only [go_sem]; first | done | omega)) only [go_sem, ↓reduceIte, reduceCtorEq, Nat.reduceEqDiff, Nat.reduceAdd, Nat.reduceSub, Nat.reduceMul, Nat.reduceDiv, Nat.reduceMod, Nat.reduceLeDiff, Nat.reduceLT, Nat.reduceBEq, Int.reduceEq, Int.reduceBEq, Int.reduceBNe, Int.reduceLT, Int.reduceLE, Int.reduceAdd, Int.reduceSub, Int.reduceNeg, Int.reduceToNat, Int.reducePow, Nat.reducePow, Int.reduceMul, Int.reduceDiv, ↓s_law_take_b0, bl_mk, hlt, h8', ix, ↓cvx, e1, e2, h1k, h2k', ix0, ↓cv0, e3, e4, hh, hh2, e5]
          exact this
    · have eS : lpS k s0.toNat i N ⟨ck, cu, ci, cs, cb⟩ = ⟨ck, cu, ci, cs, cb⟩ := by
        unfold lpS; rw [if_neg (fun h => h1k h.1), if_neg (fun h => h2k h.1), if_neg (fun h => h2k h.1)]
      rw [eS]
      obtain ⟨H', q1, q2, q3⟩ := ih ⟨ck, cu, ci, cs, cb⟩ H hf hb
      refine ⟨H', q1, q2, fun K => ?_⟩
      have := q3 K
      rw [Int.natCast_add] at this
      rw [r_law_take_0]
      simp (disch := first | with_reducible rfl | assumption | omega | rfl | (simp only [go_sem]; first | done | omega)) only [go_sem, ↓reduceIte, reduceCtorEq, Nat.reduceEqDiff, Nat.reduceAdd, Nat.reduceSub, Nat.reduceMul, Nat.reduceDiv, Nat.reduceMod, Nat.reduceLeDiff, Nat.reduceLT, Nat.reduceBEq, Int.reduceEq, Int.reduceBEq, Int.reduceBNe, Int.reduceLT, Int.reduceLE, Int.reduceAdd, Int.reduceSub, Int.reduceNeg, Int.reduceToNat, Int.reducePow, Nat.reducePow, Int.reduceMul, Int.reduceDiv, ↓s_law_take_b0, bl_mk, hlt, h8', ix, ↓cvx, e1, e2, h1k, h2k, e5]
      exact this

end Go.Proofs.YtlmhioanjmhaiaaDoor

/-
  Chapter 40: the law's own take (printed by gen_pm.py).
  Conditions: none. By an AI agent.
-/
set_option maxRecDepth 10000
set_option linter.unusedSimpArgs false
set_option linter.unusedVariables false
namespace Go.Proofs.YtlmhioanjmhaiaaDoor
open Go Eng

theorem slT_two {s : ByteArray} {q q' : IntKind} {i j : Nat} (h1 : i ≤ j) (h2 : j ≤ (bl s).length) : slT (.string s) (some (.int q (i : Int))) (some (.int q' (j : Int))) = some (.string (mk (((bl s).take j).drop i))) := by
  show ((highOf (bl s).length (bl s).length (some (.int q' (j : Int)))).bind fun h => (lowOf h (some (.int q (i : Int)))).map fun l => Value.string (mk (((bl s).take h).drop l))) = _
  rw [high_nat h2]
  show ((lowOf j (some (.int q (i : Int)))).map fun l => Value.string (mk (((bl s).take j).drop l))) = _
  rw [low_nat h1]
  rfl
theorem take_drop_one {l : List UInt8} {i : Nat} {c : UInt8} {r : List UInt8} (h : l.drop i = c :: r) : (l.take (i + 1)).drop i = [c] := by
  rw [List.drop_take, h, show i + 1 - i = 1 by omega]; rfl

/-- The text that a string begins with, up to its end. -/
def tx (acc : List UInt8) : List UInt8 → Option (List UInt8)
  | [] => none
  | [_] => none
  | c :: d :: r => if c = 0 then (if d = 1 then some acc else tx (acc ++ [0]) r) else tx (acc ++ [c]) (d :: r)
theorem tx_len : ∀ (t acc w : List UInt8), tx acc t = some w → w.length ≤ acc.length + t.length
  | [], _, _, h => by cases h
  | [_], _, _, h => by cases h
  | c :: d :: r, acc, w, h => by
    rw [tx] at h
    split at h
    · split at h
      · cases h; omega
      · have := tx_len r _ _ h; simp at this ⊢; omega
    · have := tx_len (d :: r) _ _ h; simp at this ⊢; omega
theorem b8_eq (c : UInt8) (n : Nat) (h : n < 256) : ((c.toNat : Int) = (n : Int)) ↔ c = UInt8.ofNat n := by
  constructor
  · intro e
    apply UInt8.toNat_inj.1
    rw [UInt8.toNat_ofNat']
    omega
  · rintro rfl
    rw [UInt8.toNat_ofNat']
    omega

theorem l_end (s : List UInt8) (hl : s.length ≤ 1000) (ck cu ci : Int) (cb : Bool) (b4 b6 : Nat) (hne : b4 ≠ b6) (z : Cl) (i : Nat) (acc : List UInt8) (H : AHeap) (h : s.length ≤ i + 1) (hi : i ≤ s.length + 1) (h6 : H.f b6 = .cells [.int .i64 ck, .int .u64 cu, .int .i64 ci, .string (mk acc), .bool cb] T.api_Cell true) (h4 : H.f b4 = .cells z.l T.api_Cell true) (n6 : b6 < H.n) (n4 : b4 < H.n) :
    ∃ H' c', H'.f b4 = .cells (Cl.l c') T.api_Cell true ∧ Fr (fun b => b = b4 ∨ b = b6) H H' ∧ ∀ K : K, l_law_take_1 (.string (mk s)) (.int .i64 3) (.pointer (some ⟨b4, 0, none⟩)) (.pointer (some ⟨b6, 0, none⟩)) (.int .i64 (i : Int)) H (blkK [0, 4, 6] 2 K) = K .ret [(4, .pointer (some ⟨b4, 0, none⟩)), (5, .int .i64 0)] H' := by
  obtain ⟨H1, hH1⟩ : ∃ H1, H.set b4 (.cells [.int .i64 ck, .int .u64 cu, .int .i64 ci, .string (mk acc), .bool cb] T.api_Cell true) = H1 := ⟨_, rfl⟩
  have add1 : ∀ ox oy, xbin Tryd.prog .add T.int ox oy (.int .i64 (i : Int)) (.int .i64 1) = some (.int .i64 ((i : Int) + 1)) := fun ox oy => add_i64 (by omega)
  have hge : (s.length : Int) ≤ (i : Int) + 1 := by omega
  obtain ⟨zk, zu, zi, zs, zb⟩ := z
  unfold Cl.l at h4
  dsimp only at h4
  refine ⟨H1, ⟨ck, cu, ci, mk acc, cb⟩, by rw [← hH1]; exact set_f_eq, by rw [← hH1]; exact (Fr.refl H).set _ _ fun _ => .inl rfl, fun K => ?_⟩
  rw [r_law_take_1]
  simp (disch := first | with_reducible rfl | assumption | omega | rfl | (simp only [go_sem]; first | done | omega)) only [go_sem, ↓reduceIte, reduceCtorEq, Nat.reduceEqDiff, Nat.reduceAdd, Nat.reduceSub, Nat.reduceMul, Nat.reduceDiv, Nat.reduceMod, Nat.reduceLeDiff, Nat.reduceLT, Nat.reduceBEq, Int.reduceEq, Int.reduceBEq, Int.reduceBNe, Int.reduceLT, Int.reduceLE, Int.reduceAdd, Int.reduceSub, Int.reduceNeg, Int.reduceToNat, Int.reducePow, Nat.reducePow, Int.reduceMul, Int.reduceDiv, ↓s_law_take_b1, add1, bl_mk, hge, h6, h4, hH1]

set_option maxHeartbeats 1000000 in
theorem l_take1 (s : List UInt8) (hl : s.length ≤ 1000) (ck cu ci : Int) (cb : Bool) (b4 b6 : Nat) (hne : b4 ≠ b6) (z : Cl) : ∀ (t : List UInt8) (i : Nat) (acc : List UInt8) (H : AHeap), s.drop i = t → acc.length ≤ i → i ≤ s.length + 1 → H.f b6 = .cells [.int .i64 ck, .int .u64 cu, .int .i64 ci, .string (mk acc), .bool cb] T.api_Cell true → H.f b4 = .cells z.l T.api_Cell true → b6 < H.n → b4 < H.n →
    (tx acc t = none → ∃ H' c', H'.f b4 = .cells (Cl.l c') T.api_Cell true ∧ Fr (fun b => b = b4 ∨ b = b6) H H' ∧ ∀ K : K, l_law_take_1 (.string (mk s)) (.int .i64 3) (.pointer (some ⟨b4, 0, none⟩)) (.pointer (some ⟨b6, 0, none⟩)) (.int .i64 (i : Int)) H (blkK [0, 4, 6] 2 K) = K .ret [(4, .pointer (some ⟨b4, 0, none⟩)), (5, .int .i64 0)] H') ∧
    (∀ w, tx acc t = some w → ∃ H', H'.f b6 = .cells [.int .i64 ck, .int .u64 cu, .int .i64 ci, .string (mk w), .bool cb] T.api_Cell true ∧ Fr (fun b => b = b6) H H' ∧ ∀ K : K, l_law_take_1 (.string (mk s)) (.int .i64 3) (.pointer (some ⟨b4, 0, none⟩)) (.pointer (some ⟨b6, 0, none⟩)) (.int .i64 (i : Int)) H (blkK [0, 4, 6] 2 K) = K .normal [(0, .string (mk s)), (4, .pointer (some ⟨b4, 0, none⟩)), (6, .pointer (some ⟨b6, 0, none⟩))] H')
  | [], i, acc, H, hx, ha, hi, h6, h4, n6, n4 => by
    have h : s.length ≤ i := List.drop_eq_nil_iff.1 hx
    refine ⟨fun _ => ?_, fun w hw => (by simp [tx] at hw)⟩
    exact l_end s hl ck cu ci cb b4 b6 hne z i acc H (by omega) hi h6 h4 n6 n4
  | [c], i, acc, H, hx, ha, hi, h6, h4, n6, n4 => by
    have h : s.length ≤ i + 1 := by
      have : (s.drop i).length = 1 := by rw [hx]; rfl
      rw [List.length_drop] at this; omega
    refine ⟨fun _ => ?_, fun w hw => (by simp [tx] at hw)⟩
    exact l_end s hl ck cu ci cb b4 b6 hne z i acc H h hi h6 h4 n6 n4
  | c :: d :: r, i, acc, H, hx, ha, hi, h6, h4, n6, n4 => by
    obtain ⟨hlt, hxa, hx'⟩ := drop_cons hx
    obtain ⟨hlt2, hxb, hx''⟩ := drop_cons hx'
    have add1 : ∀ ox oy, xbin Tryd.prog .add T.int ox oy (.int .i64 (i : Int)) (.int .i64 1) = some (.int .i64 ((i : Int) + 1)) := fun ox oy => add_i64 (by omega)
    have add2 : ∀ ox oy, xbin Tryd.prog .add T.int ox oy (.int .i64 ((i : Int) + 1)) (.int .i64 1) = some (.int .i64 ((i : Int) + 1 + 1)) := fun ox oy => add_i64 (by omega)
    have hge : ¬ (s.length : Int) ≤ (i : Int) + 1 := by omega
    have ixc := xix (s := mk s) (i := i) (by rw [bl_mk]; exact hlt)
    rw [show (bl (mk s))[i]'(by rw [bl_mk]; exact hlt) = c by simp [hxa]] at ixc
    have ixd := xix (s := mk s) (i := i + 1) (by rw [bl_mk]; exact hlt2)
    rw [show (bl (mk s))[i + 1]'(by rw [bl_mk]; exact hlt2) = d by simp [hxb]] at ixd
    have ixd : xindex Tryd.prog T.string (.string (mk s)) (.int .i64 ((i : Int) + 1)) = some (.int .u8 (d.toNat : Int)) := ixd
    have sl := slT_two (s := mk s) (q := .i64) (q' := .i64) (i := i) (j := i + 1) (by omega) (by rw [bl_mk]; omega)
    rw [bl_mk, take_drop_one hx] at sl
    have sl : slT (.string (mk s)) (some (.int .i64 (i : Int))) (some (.int .i64 ((i : Int) + 1))) = some (.string (mk [c])) := sl
    have hc0 : ((c.toNat : Int) = 0) ↔ c = 0 := b8_eq c 0 (by decide)
    have hd1 : ((d.toNat : Int) = 1) ↔ d = 1 := b8_eq d 1 (by decide)
    have ad : ∀ ox oy, xbin Tryd.prog .add T.string ox oy (.string (mk acc)) (.string (mk [c])) = some (.string (mk (acc ++ [c]))) := fun ox oy => str_add' (by simp; omega)
    obtain ⟨H1, hH1⟩ : ∃ H1, H.set b6 (.cells [.int .i64 ck, .int .u64 cu, .int .i64 ci, .string (mk (acc ++ [c])), .bool cb] T.api_Cell true) = H1 := ⟨_, rfl⟩
    have g6 : H1.f b6 = .cells [.int .i64 ck, .int .u64 cu, .int .i64 ci, .string (mk (acc ++ [c])), .bool cb] T.api_Cell true := by rw [← hH1]; exact set_f_eq
    have g4 : H1.f b4 = .cells z.l T.api_Cell true := by rw [← hH1, set_f_ne hne]; exact h4
    have m6 : b6 < H1.n := by rw [← hH1]; exact n6
    have m4 : b4 < H1.n := by rw [← hH1]; exact n4
    have fr : Fr (fun b => b = b6) H H1 := by rw [← hH1]; exact (Fr.refl H).set _ _ fun _ => rfl
    obtain ⟨a1, a2⟩ := l_take1 s hl ck cu ci cb b4 b6 hne z (d :: r) (i + 1) (acc ++ [c]) H1 hx' (by simp; omega) (by omega) g6 g4 m6 m4
    obtain ⟨b1, b2⟩ := l_take1 s hl ck cu ci cb b4 b6 hne z r (i + 1 + 1) (acc ++ [c]) H1 hx'' (by simp; omega) (by omega) g6 g4 m6 m4
    rw [show ((i + 1 : Nat) : Int) = (i : Int) + 1 from rfl] at a1 a2
    rw [show ((i + 1 + 1 : Nat) : Int) = (i : Int) + 1 + 1 from rfl] at b1 b2
    rw [tx]
    by_cases hc : c = 0
    · have hc' : ((c.toNat : Int) = 0) = True := by simp [hc0, hc]
      rw [if_pos hc]
      by_cases hd : d = 1
      · have hd' : ((d.toNat : Int) = 1) = True := by simp [hd1, hd]
        rw [if_pos hd]
        refine ⟨fun h => (by simp at h), fun w hw => ?_⟩
        cases hw
        refine ⟨H, h6, Fr.refl H, fun K => ?_⟩
        rw [r_law_take_1]
        simp (disch := first | with_reducible rfl | assumption | omega | rfl | (simp only [go_sem]; first | done | omega)) only [go_sem, ↓reduceIte, reduceCtorEq, Nat.reduceEqDiff, Nat.reduceAdd, Nat.reduceSub, Nat.reduceMul, Nat.reduceDiv, Nat.reduceMod, Nat.reduceLeDiff, Nat.reduceLT, Nat.reduceBEq, Int.reduceEq, Int.reduceBEq, Int.reduceBNe, Int.reduceLT, Int.reduceLE, Int.reduceAdd, Int.reduceSub, Int.reduceNeg, Int.reduceToNat, Int.reducePow, Nat.reducePow, Int.reduceMul, Int.reduceDiv, ↓s_law_take_b1, add1, bl_mk, hge, ixc, hc', ixd, hd']
      · have hd' : ¬ ((d.toNat : Int) = 1) := fun e => hd (hd1.1 e)
        rw [if_neg hd, show acc ++ [0] = acc ++ [c] by rw [hc]]
        refine ⟨fun h => ?_, fun w hw => ?_⟩
        · obtain ⟨H', c', q1, q2, q3⟩ := b1 h
          refine ⟨H', c', q1, (fr.mono fun _ _ h => .inr h).trans q2, fun K => ?_⟩
          have := q3 K
          rw [r_law_take_1]
          simp (disch := first | with_reducible rfl | assumption | omega | rfl | (simp only [go_sem]; first | done | omega)) only [go_sem, ↓reduceIte, reduceCtorEq, Nat.reduceEqDiff, Nat.reduceAdd, Nat.reduceSub, Nat.reduceMul, Nat.reduceDiv, Nat.reduceMod, Nat.reduceLeDiff, Nat.reduceLT, Nat.reduceBEq, Int.reduceEq, Int.reduceBEq, Int.reduceBNe, Int.reduceLT, Int.reduceLE, Int.reduceAdd, Int.reduceSub, Int.reduceNeg, Int.reduceToNat, Int.reducePow, Nat.reducePow, Int.reduceMul, Int.reduceDiv, ↓s_law_take_b1, add1, bl_mk, hge, ixc, hc', ixd, hd', h6, sl, ad, hH1, add2]
          exact this
        · obtain ⟨H', q1, q2, q3⟩ := b2 w hw
          refine ⟨H', q1, fr.trans q2, fun K => ?_⟩
          have := q3 K
          rw [r_law_take_1]
          simp (disch := first | with_reducible rfl | assumption | omega | rfl | (simp only [go_sem]; first | done | omega)) only [go_sem, ↓reduceIte, reduceCtorEq, Nat.reduceEqDiff, Nat.reduceAdd, Nat.reduceSub, Nat.reduceMul, Nat.reduceDiv, Nat.reduceMod, Nat.reduceLeDiff, Nat.reduceLT, Nat.reduceBEq, Int.reduceEq, Int.reduceBEq, Int.reduceBNe, Int.reduceLT, Int.reduceLE, Int.reduceAdd, Int.reduceSub, Int.reduceNeg, Int.reduceToNat, Int.reducePow, Nat.reducePow, Int.reduceMul, Int.reduceDiv, ↓s_law_take_b1, add1, bl_mk, hge, ixc, hc', ixd, hd', h6, sl, ad, hH1, add2]
          exact this
    · have hc' : ¬ ((c.toNat : Int) = 0) := fun e => hc (hc0.1 e)
      rw [if_neg hc]
      refine ⟨fun h => ?_, fun w hw => ?_⟩
      · obtain ⟨H', c', q1, q2, q3⟩ := a1 h
        refine ⟨H', c', q1, (fr.mono fun _ _ h => .inr h).trans q2, fun K => ?_⟩
        have := q3 K
        rw [r_law_take_1]
        simp (disch := first | with_reducible rfl | assumption | omega | rfl | (simp only [go_sem]; first | done | omega)) only [go_sem, ↓reduceIte, reduceCtorEq, Nat.reduceEqDiff, Nat.reduceAdd, Nat.reduceSub, Nat.reduceMul, Nat.reduceDiv, Nat.reduceMod, Nat.reduceLeDiff, Nat.reduceLT, Nat.reduceBEq, Int.reduceEq, Int.reduceBEq, Int.reduceBNe, Int.reduceLT, Int.reduceLE, Int.reduceAdd, Int.reduceSub, Int.reduceNeg, Int.reduceToNat, Int.reducePow, Nat.reducePow, Int.reduceMul, Int.reduceDiv, ↓s_law_take_b1, add1, bl_mk, hge, ixc, hc', h6, sl, ad, hH1]
        exact this
      · obtain ⟨H', q1, q2, q3⟩ := a2 w hw
        refine ⟨H', q1, fr.trans q2, fun K => ?_⟩
        have := q3 K
        rw [r_law_take_1]
        simp (disch := first | with_reducible rfl | assumption | omega | rfl | (simp only [go_sem]; first | done | omega)) only [go_sem, ↓reduceIte, reduceCtorEq, Nat.reduceEqDiff, Nat.reduceAdd, Nat.reduceSub, Nat.reduceMul, Nat.reduceDiv, Nat.reduceMod, Nat.reduceLeDiff, Nat.reduceLT, Nat.reduceBEq, Int.reduceEq, Int.reduceBEq, Int.reduceBNe, Int.reduceLT, Int.reduceLE, Int.reduceAdd, Int.reduceSub, Int.reduceNeg, Int.reduceToNat, Int.reducePow, Nat.reducePow, Int.reduceMul, Int.reduceDiv, ↓s_law_take_b1, add1, bl_mk, hge, ixc, hc', h6, sl, ad, hH1]
        exact this

theorem lpS_ok {k : Int} {s0 i N : Nat} {c : Cl} (hc : CellOk c) (hN : N < 18446744073709551616) : CellOk (lpS k s0 i N c) := by
  obtain ⟨h1, h2, h3⟩ := hc
  unfold lpS
  split
  · exact ⟨⟨by dsimp only; omega, by dsimp only; omega⟩, h2, h3⟩
  · split
    · exact ⟨h1, wrap64_rng _, h3⟩
    · split
      · exact ⟨h1, wrap64_rng _, h3⟩
      · exact ⟨h1, h2, h3⟩
theorem lp_ok {k : Int} {s0 : Nat} : ∀ (t : List UInt8) (i n : Nat) (c : Cl), CellOk c → 1 ≤ i → i ≤ 9 → n < 256 ^ (i - 1) → CellOk (lp k s0 i n c t)
  | [], _, _, _, hc, _, _, _ => hc
  | x :: t, i, n, c, hc, h1, h9, hn => by
    rw [lp]
    split
    · exact hc
    · have p := p256 (i := i) (by omega)
      have hps : (256 : Nat) ^ i = 256 ^ (i - 1) * 256 := by
        have h := Nat.pow_succ (n := 256) (m := i - 1)
        rwa [show (i - 1).succ = i by omega] at h
      have hx8 := x.toNat_lt
      exact lp_ok t (i + 1) _ _ (lpS_ok hc (by omega)) (by omega) (by omega) (by rw [show i + 1 - 1 = i by omega]; omega)

/-- The cell, if its bytes are there. -/
def chk (c : Cl) (s : List UInt8) : Option Cl := if (enc c).length ≤ s.length ∧ s.take (enc c).length = enc c then some c else none
def ltkC (k : Int) (s0 : UInt8) (t : List UInt8) : Option Cl :=
  if k = 3 then (match tx [] (s0 :: t) with | none => none | some w => chk ⟨3, 0, 0, mk w, false⟩ (s0 :: t))
  else if k = 4 then chk ⟨4, 0, 0, mk [], decide ((s0.toNat : Int) = 1)⟩ (s0 :: t)
  else if k = 2 ∧ (s0.toNat : Int) = 127 then chk ⟨2, 0, -1, mk [], false⟩ (s0 :: t)
  else chk (lp k s0.toNat 1 0 ⟨k, 0, 0, mk [], false⟩ t) (s0 :: t)
/-- The cell of a kind that a string begins with. -/
def ltk (k : Int) : List UInt8 → Option Cl
  | [] => none
  | s0 :: t => ltkC k s0 t
def ltkV (x : Option Cl) (v : Value) : Prop := match x with
  | none => ∃ c' : Cl, v = .tuple #[.agg ⟨c'.l⟩, .int .i64 0]
  | some c => v = .tuple #[.agg ⟨c.l⟩, .int .i64 ((enc c).length : Int)]

theorem lpS_else {k : Int} (h1 : k ≠ 1) (h2 : k ≠ 2) {s0 i n : Nat} {c : Cl} : lpS k s0 i n c = c := by unfold lpS; rw [if_neg (fun h => h1 h.1), if_neg (fun h => h2 h.1), if_neg (fun h => h2 h.1)]
theorem lp_else {k : Int} (h1 : k ≠ 1) (h2 : k ≠ 2) {s0 : Nat} : ∀ (t : List UInt8) (i n : Nat) (c : Cl), lp k s0 i n c t = c
  | [], _, _, _ => rfl
  | x :: t, i, n, c => by
    rw [lp]
    split
    · rfl
    · rw [lpS_else h1 h2]; exact lp_else h1 h2 t _ _ c
theorem lp_127 {s0 : Nat} (h : s0 = 127) : ∀ (t : List UInt8) (i n : Nat) (c : Cl), 1 ≤ i → lp 2 s0 i n c t = c
  | [], _, _, _, _ => rfl
  | x :: t, i, n, c, hi => by
    rw [lp]
    split
    · rfl
    · have e : lpS 2 s0 i (n * 256 + x.toNat) c = c := by unfold lpS; rw [if_neg (fun h => by omega), if_neg (fun h => by omega), if_neg (fun h => by omega)]
      rw [e]; exact lp_127 h t _ _ c (by omega)

theorem q_ltake_nil (k : Int) (H : AHeap) : ∃ v, CC F.law_take [.string (mk []), .int .i64 k] H = some (v, H) ∧ ltkV (ltk k []) v := by
  obtain ⟨H1, hH1⟩ : ∃ H1, H.push (.cells [.int .i64 0, .int .u64 0, .int .i64 0, .string (mk []), .bool false] T.api_Cell true) = H1 := ⟨_, rfl⟩
  have s1 : Still H H1 := by rw [← hH1]; exact (Fr.refl H).push _
  have n1 : H1.n = H.n + 1 := by rw [← hH1]; rfl
  have f1 : H1.f H.n = .cells [.int .i64 0, .int .u64 0, .int .i64 0, .string (mk []), .bool false] T.api_Cell true := by rw [← hH1]; exact push_f_eq rfl
  obtain ⟨H2, hH2⟩ : ∃ H2, (H1.push (.cells [.int .i64 0, .int .u64 0, .int .i64 0, .string (mk []), .bool false] T.api_Cell true)).set H1.n (.cells [.int .i64 k, .int .u64 0, .int .i64 0, .string (mk []), .bool false] T.api_Cell true) = H2 := ⟨_, rfl⟩
  have s2 : Still H1 H2 := by rw [← hH2]; exact Fr.set ((Fr.refl H1).push _) _ _ (fun h => by omega)
  have f2 : H2.f H1.n = .cells [.int .i64 k, .int .u64 0, .int .i64 0, .string (mk []), .bool false] T.api_Cell true := by rw [← hH2]; exact set_f_eq
  have g2 : H2.f H.n = .cells [.int .i64 0, .int .u64 0, .int .i64 0, .string (mk []), .bool false] T.api_Cell true := by rw [s2.f (by omega) fun h => h]; exact f1
  obtain ⟨H3, hH3⟩ : ∃ H3, H2.set H.n (.cells [.int .i64 k, .int .u64 0, .int .i64 0, .string (mk []), .bool false] T.api_Cell true) = H3 := ⟨_, rfl⟩
  have s3 : Still H H3 := by rw [← hH3]; exact Fr.set (s1.trans s2) _ _ (fun h => by omega)
  have f3 : H3.f H.n = .cells [.int .i64 k, .int .u64 0, .int .i64 0, .string (mk []), .bool false] T.api_Cell true := by rw [← hH3]; exact set_f_eq
  refine ⟨_, ?_, ⟨k, 0, 0, mk [], false⟩, rfl⟩
  apply pure_of _ (d_law_take _ _ H) rfl
  rotate_left 2
  · simp (disch := first | with_reducible rfl | assumption | omega | rfl | (simp only [go_sem]; first | done | omega)) only [go_sem, ↓reduceIte, reduceCtorEq, Nat.reduceEqDiff, Nat.reduceAdd, Nat.reduceSub, Nat.reduceMul, Nat.reduceDiv, Nat.reduceMod, Nat.reduceLeDiff, Nat.reduceLT, Nat.reduceBEq, Int.reduceEq, Int.reduceBEq, Int.reduceBNe, Int.reduceLT, Int.reduceLE, Int.reduceAdd, Int.reduceSub, Int.reduceNeg, Int.reduceToNat, Int.reducePow, Nat.reducePow, Int.reduceMul, Int.reduceDiv, ↓s_law_take, hH1, hH2, bl_mk, f2, g2, hH3, f3, xload_cell]
    rfl
  · exact s3

set_option maxHeartbeats 4000000 in
theorem q_ltake (k : Int) (s : List UInt8) (H : AHeap) (hk : kindP k = true) (hl : s.length ≤ 1000) : ∃ v, CC F.law_take [.string (mk s), .int .i64 k] H = some (v, H) ∧ ltkV (ltk k s) v := by
  cases s with
  | nil => exact q_ltake_nil k H
  | cons s0 t =>
  have hs8 := s0.toNat_lt
  obtain ⟨s, hs⟩ : ∃ s, s0 :: t = s := ⟨_, rfl⟩
  have hsl : ¬ ((s.length : Int) = 0) := by rw [← hs]; simp; omega
  have h0 : 0 < s.length := by rw [← hs]; simp
  have ix0 := xix (s := mk s) (i := 0) (by rw [bl_mk]; exact h0)
  rw [show (bl (mk s))[0]'(by rw [bl_mk]; exact h0) = s0 by simp [← hs]] at ix0
  have ix0 : xindex Tryd.prog T.string (.string (mk s)) (.int .i64 0) = some (.int .u8 (s0.toNat : Int)) := ix0
  obtain ⟨H1, hH1⟩ : ∃ H1, H.push (.cells [.int .i64 0, .int .u64 0, .int .i64 0, .string (mk []), .bool false] T.api_Cell true) = H1 := ⟨_, rfl⟩
  have s1 : Still H H1 := by rw [← hH1]; exact (Fr.refl H).push _
  have n1 : H1.n = H.n + 1 := by rw [← hH1]; rfl
  have f1 : H1.f H.n = .cells [.int .i64 0, .int .u64 0, .int .i64 0, .string (mk []), .bool false] T.api_Cell true := by rw [← hH1]; exact push_f_eq rfl
  obtain ⟨H2, hH2⟩ : ∃ H2, (H1.push (.cells [.int .i64 0, .int .u64 0, .int .i64 0, .string (mk []), .bool false] T.api_Cell true)).set H1.n (.cells [.int .i64 k, .int .u64 0, .int .i64 0, .string (mk []), .bool false] T.api_Cell true) = H2 := ⟨_, rfl⟩
  have s2 : Still H1 H2 := by rw [← hH2]; exact Fr.set ((Fr.refl H1).push _) _ _ (fun h => by omega)
  have n2 : H2.n = H1.n + 1 := by rw [← hH2]; rfl
  have f2 : H2.f H1.n = .cells [.int .i64 k, .int .u64 0, .int .i64 0, .string (mk []), .bool false] T.api_Cell true := by rw [← hH2]; exact set_f_eq
  have g2 : H2.f H.n = .cells [.int .i64 0, .int .u64 0, .int .i64 0, .string (mk []), .bool false] T.api_Cell true := by rw [s2.f (by omega) fun h => h]; exact f1
  have s02 := s1.trans s2
  obtain ⟨H3, q1, q2, q3⟩ := l_take0 s s0 (by rw [← hs]; rfl) (by rw [← hs]; exact hl) k (.pointer (some ⟨H.n, 0, none⟩)) H1.n t 1 0 ⟨k, 0, 0, mk [], false⟩ H2 (by rw [← hs]; rfl) (by decide) (by decide) (by decide) f2 (by omega)
  have q3 : ∀ K : K, l_law_take_0 (.string (mk s)) (.int .i64 k) (.pointer (some ⟨H.n, 0, none⟩)) (.pointer (some ⟨H1.n, 0, none⟩)) (.int .u64 0) (.int .i64 1) H2 (blkK [0, 1, 4, 6] 0 K) = K .normal [(0, .string (mk s)), (1, .int .i64 k), (4, .pointer (some ⟨H.n, 0, none⟩)), (6, .pointer (some ⟨H1.n, 0, none⟩))] H3 := q3
  have lpok := lp_ok (k := k) (s0 := s0.toNat) t 1 0 ⟨k, 0, 0, mk [], false⟩ ⟨⟨by simp, by simp⟩, ⟨by simp, by simp⟩, by simp⟩ (by decide) (by decide) (by decide)
  have g3 : H3.f H.n = .cells [.int .i64 0, .int .u64 0, .int .i64 0, .string (mk []), .bool false] T.api_Cell true := by rw [q2.f (by omega) (by omega)]; exact g2
  have s03 : Still H H3 := s02.then q2 fun b hb h => by omega
  have n3 : H1.n < H3.n := Nat.lt_of_lt_of_le (by omega) q2.n
  have hls : s.length ≤ 1000 := by rw [← hs]; exact hl
  show ∃ v, _ ∧ ltkV (ltkC k s0 t) v
  unfold ltkC
  rw [hs]
  refine (Classical.em (k = 3)).elim (fun hk3 => ?_) fun hk3 => ?_
  · subst hk3
    have e3 : lp 3 s0.toNat 1 0 ⟨3, 0, 0, mk [], false⟩ t = ⟨3, 0, 0, mk [], false⟩ := lp_else (by decide) (by decide) t 1 0 _
    rw [e3] at q1
    unfold Cl.l at q1
    dsimp only at q1
    obtain ⟨a1, a2⟩ := l_take1 s hls 3 0 0 false H.n H1.n (by omega) ⟨0, 0, 0, mk [], false⟩ s 0 [] H3 rfl (by simp) (by omega) q1 g3 n3 (by omega)
    rw [if_pos rfl]
    cases htx : tx [] s with
    | none =>
      obtain ⟨H4, c', p1, p2, p3⟩ := a1 htx
      have p3 : ∀ K : K, l_law_take_1 (.string (mk s)) (.int .i64 3) (.pointer (some ⟨H.n, 0, none⟩)) (.pointer (some ⟨H1.n, 0, none⟩)) (.int .i64 0) H3 (blkK [0, 4, 6] 2 K) = K .ret [(4, .pointer (some ⟨H.n, 0, none⟩)), (5, .int .i64 0)] H4 := p3
      obtain ⟨ck, cu, ci, cs, cb⟩ := c'
      unfold Cl.l at p1
      dsimp only at p1
      refine ⟨_, ?_, ⟨ck, cu, ci, cs, cb⟩, rfl⟩
      apply pure_of _ (d_law_take _ _ H) rfl
      rotate_left 2
      · simp (disch := first | with_reducible rfl | assumption | omega | rfl | (simp only [go_sem]; first | done | omega)) only [go_sem, ↓reduceIte, reduceCtorEq, Nat.reduceEqDiff, Nat.reduceAdd, Nat.reduceSub, Nat.reduceMul, Nat.reduceDiv, Nat.reduceMod, Nat.reduceLeDiff, Nat.reduceLT, Nat.reduceBEq, Int.reduceEq, Int.reduceBEq, Int.reduceBNe, Int.reduceLT, Int.reduceLE, Int.reduceAdd, Int.reduceSub, Int.reduceNeg, Int.reduceToNat, Int.reducePow, Nat.reducePow, Int.reduceMul, Int.reduceDiv, ↓s_law_take, hH1, hH2, bl_mk, hsl, q3, p3, p1, xload_cell]
        rfl
      · exact s03.then p2 fun b hb h => by omega
    | some w =>
      obtain ⟨H4, p1, p2, p3⟩ := a2 w htx
      have p3 : ∀ K : K, l_law_take_1 (.string (mk s)) (.int .i64 3) (.pointer (some ⟨H.n, 0, none⟩)) (.pointer (some ⟨H1.n, 0, none⟩)) (.int .i64 0) H3 (blkK [0, 4, 6] 2 K) = K .normal [(0, .string (mk s)), (4, .pointer (some ⟨H.n, 0, none⟩)), (6, .pointer (some ⟨H1.n, 0, none⟩))] H4 := p3
      have hw : (bl (mk w)).length ≤ 1000 := by
        have := tx_len s [] w htx
        rw [bl_mk]; simp at this; omega
      have s04 : Still H H4 := s03.then p2 fun b hb h => by omega
      have g4 : H4.f H.n = .cells [.int .i64 0, .int .u64 0, .int .i64 0, .string (mk []), .bool false] T.api_Cell true := by rw [p2.f (by omega) (by omega)]; exact g3
      obtain ⟨c, hc⟩ : ∃ c : Cl, (⟨3, 0, 0, mk w, false⟩ : Cl) = c := ⟨_, rfl⟩
      have cok : CellOk c := by rw [← hc]; exact ⟨⟨by simp, by simp⟩, ⟨by simp, by simp⟩, hw⟩
      show ∃ v, _ ∧ ltkV (chk ⟨3, 0, 0, mk w, false⟩ s) v
      rw [hc]
      have p1 : H4.f H1.n = .cells c.l T.api_Cell true := by rw [← hc]; exact p1
      obtain ⟨ck, cu, ci, cs, cb⟩ := c
      have mb := q_bytesOf ⟨ck, cu, ci, cs, cb⟩ cok H4
      have el := (enc_len cok).1
      unfold chk
      generalize he : enc ⟨ck, cu, ci, cs, cb⟩ = e at mb el ⊢
      unfold Cl.l at p1 mb
      dsimp only at p1 mb
      obtain ⟨H5, hH5⟩ : ∃ H5, H4.set H.n (.cells [.int .i64 ck, .int .u64 cu, .int .i64 ci, .string cs, .bool cb] T.api_Cell true) = H5 := ⟨_, rfl⟩
      have s05 : Still H H5 := by rw [← hH5]; exact Fr.set s04 _ _ (fun h => by omega)
      have f5 : H5.f H.n = .cells [.int .i64 ck, .int .u64 cu, .int .i64 ci, .string cs, .bool cb] T.api_Cell true := by rw [← hH5]; exact set_f_eq
      by_cases hE : (s.length : Int) < (e.length : Int)
      · rw [if_neg (fun h => (by omega))]
        refine ⟨_, ?_, ⟨ck, cu, ci, cs, cb⟩, rfl⟩
        apply pure_of _ (d_law_take _ _ H) rfl
        rotate_left 2
        · simp (maxSteps := 2000000) (disch := first | with_reducible rfl | assumption | omega | rfl | (simp only [go_sem]; first | done | omega)) only [go_sem, ↓reduceIte, reduceCtorEq, Nat.reduceEqDiff, Nat.reduceAdd, Nat.reduceSub, Nat.reduceMul, Nat.reduceDiv, Nat.reduceMod, Nat.reduceLeDiff, Nat.reduceLT, Nat.reduceBEq, Int.reduceEq, Int.reduceBEq, Int.reduceBNe, Int.reduceLT, Int.reduceLE, Int.reduceAdd, Int.reduceSub, Int.reduceNeg, Int.reduceToNat, Int.reducePow, Nat.reducePow, Int.reduceMul, Int.reduceDiv, s_law_take, hH1, hH2, bl_mk, hsl, q3, p3, p1, ↓enterK_eq mb, enterK_eq mb, hE, g4, hH5, f5, xload_cell]
          rfl
        · exact s05
      have sl := slT_hi (s := mk s) (q := .i64) (j := e.length) (by rw [bl_mk]; omega)
      rw [bl_mk] at sl
      by_cases hG : s.take e.length = e
      · have hG' : (s.take e.length = e) = True := by simp [hG]
        rw [if_pos ⟨by omega, hG⟩]
        refine ⟨.tuple #[.agg ⟨[.int .i64 ck, .int .u64 cu, .int .i64 ci, .string cs, .bool cb]⟩, .int .i64 (e.length : Int)], ?_, by show _ = Value.tuple #[_, .int .i64 ((enc ⟨ck, cu, ci, cs, cb⟩).length : Int)]; rw [he]; rfl⟩
        apply pure_of _ (d_law_take _ _ H) rfl
        rotate_left 2
        · simp (maxSteps := 2000000) (disch := first | with_reducible rfl | assumption | omega | rfl | (simp only [go_sem]; first | done | omega)) only [go_sem, ↓reduceIte, reduceCtorEq, Nat.reduceEqDiff, Nat.reduceAdd, Nat.reduceSub, Nat.reduceMul, Nat.reduceDiv, Nat.reduceMod, Nat.reduceLeDiff, Nat.reduceLT, Nat.reduceBEq, Int.reduceEq, Int.reduceBEq, Int.reduceBNe, Int.reduceLT, Int.reduceLE, Int.reduceAdd, Int.reduceSub, Int.reduceNeg, Int.reduceToNat, Int.reducePow, Nat.reducePow, Int.reduceMul, Int.reduceDiv, s_law_take, hH1, hH2, bl_mk, hsl, q3, p3, p1, ↓enterK_eq mb, enterK_eq mb, hE, sl, hG', g4, hH5, f5, xload_cell]
          rfl
        · exact s05
      · rw [if_neg (fun h => hG h.2)]
        refine ⟨_, ?_, ⟨ck, cu, ci, cs, cb⟩, rfl⟩
        apply pure_of _ (d_law_take _ _ H) rfl
        rotate_left 2
        · simp (maxSteps := 2000000) (disch := first | with_reducible rfl | assumption | omega | rfl | (simp only [go_sem]; first | done | omega)) only [go_sem, ↓reduceIte, reduceCtorEq, Nat.reduceEqDiff, Nat.reduceAdd, Nat.reduceSub, Nat.reduceMul, Nat.reduceDiv, Nat.reduceMod, Nat.reduceLeDiff, Nat.reduceLT, Nat.reduceBEq, Int.reduceEq, Int.reduceBEq, Int.reduceBNe, Int.reduceLT, Int.reduceLE, Int.reduceAdd, Int.reduceSub, Int.reduceNeg, Int.reduceToNat, Int.reducePow, Nat.reducePow, Int.reduceMul, Int.reduceDiv, s_law_take, hH1, hH2, bl_mk, hsl, q3, p3, p1, ↓enterK_eq mb, enterK_eq mb, hE, sl, hG, g4, hH5, f5, xload_cell]
          rfl
        · exact s05
  rw [if_neg hk3]
  refine (Classical.em (k = 4)).elim (fun hk4 => ?_) fun hk4 => ?_
  · subst hk4
    have e3 : lp 4 s0.toNat 1 0 ⟨4, 0, 0, mk [], false⟩ t = ⟨4, 0, 0, mk [], false⟩ := lp_else (by decide) (by decide) t 1 0 _
    rw [e3] at q1
    unfold Cl.l at q1
    dsimp only at q1
    rw [if_pos rfl]
    · obtain ⟨d, hd⟩ : ∃ d, decide ((s0.toNat : Int) = 1) = d := ⟨_, rfl⟩
      obtain ⟨H4, hH4⟩ : ∃ H4, H3.set H1.n (.cells [.int .i64 4, .int .u64 0, .int .i64 0, .string (mk []), .bool d] T.api_Cell true) = H4 := ⟨_, rfl⟩
      have p2 : Fr (fun b => b = H1.n) H3 H4 := by rw [← hH4]; exact (Fr.refl H3).set _ _ fun _ => rfl
      have s04 : Still H H4 := s03.then p2 fun b hb h => by omega
      have g4 : H4.f H.n = .cells [.int .i64 0, .int .u64 0, .int .i64 0, .string (mk []), .bool false] T.api_Cell true := by rw [p2.f (by omega) (by omega)]; exact g3
      rw [hd]
      have z1 : ∀ K : K, l_law_take_1 (.string (mk s)) (.int .i64 4) (.pointer (some ⟨H.n, 0, none⟩)) (.pointer (some ⟨H1.n, 0, none⟩)) (.int .i64 0) H4 (blkK [0, 4, 6] 2 K) = K .normal [(0, .string (mk s)), (4, .pointer (some ⟨H.n, 0, none⟩)), (6, .pointer (some ⟨H1.n, 0, none⟩))] H4 := fun K => by
        rw [r_law_take_1]
        simp (disch := first | with_reducible rfl | assumption | omega | rfl | (simp only [go_sem]; first | done | omega)) only [go_sem, ↓reduceIte, reduceCtorEq, Nat.reduceEqDiff, Nat.reduceAdd, Nat.reduceSub, Nat.reduceMul, Nat.reduceDiv, Nat.reduceMod, Nat.reduceLeDiff, Nat.reduceLT, Nat.reduceBEq, Int.reduceEq, Int.reduceBEq, Int.reduceBNe, Int.reduceLT, Int.reduceLE, Int.reduceAdd, Int.reduceSub, Int.reduceNeg, Int.reduceToNat, Int.reducePow, Nat.reducePow, Int.reduceMul, Int.reduceDiv, ↓s_law_take_b1]
      obtain ⟨c, hc⟩ : ∃ c : Cl, (⟨4, 0, 0, mk [], d⟩ : Cl) = c := ⟨_, rfl⟩
      have cok : CellOk c := by rw [← hc]; exact ⟨⟨by simp, by simp⟩, ⟨by simp, by simp⟩, by simp⟩
      have p1 : H4.f H1.n = .cells c.l T.api_Cell true := by rw [← hc, ← hH4]; exact set_f_eq
      rw [hc]
      obtain ⟨ck, cu, ci, cs, cb⟩ := c
      have mb := q_bytesOf ⟨ck, cu, ci, cs, cb⟩ cok H4
      have el := (enc_len cok).1
      unfold chk
      generalize he : enc ⟨ck, cu, ci, cs, cb⟩ = e at mb el ⊢
      unfold Cl.l at p1 mb
      dsimp only at p1 mb
      obtain ⟨H5, hH5⟩ : ∃ H5, H4.set H.n (.cells [.int .i64 ck, .int .u64 cu, .int .i64 ci, .string cs, .bool cb] T.api_Cell true) = H5 := ⟨_, rfl⟩
      have s05 : Still H H5 := by rw [← hH5]; exact Fr.set s04 _ _ (fun h => by omega)
      have f5 : H5.f H.n = .cells [.int .i64 ck, .int .u64 cu, .int .i64 ci, .string cs, .bool cb] T.api_Cell true := by rw [← hH5]; exact set_f_eq
      by_cases hE : (s.length : Int) < (e.length : Int)
      · rw [if_neg (fun h => (by omega))]
        refine ⟨_, ?_, ⟨ck, cu, ci, cs, cb⟩, rfl⟩
        apply pure_of _ (d_law_take _ _ H) rfl
        rotate_left 2
        · simp (maxSteps := 2000000) (disch := first | with_reducible rfl | assumption | omega | rfl | (simp only [go_sem]; first | done | omega)) only [go_sem, ↓reduceIte, reduceCtorEq, Nat.reduceEqDiff, Nat.reduceAdd, Nat.reduceSub, Nat.reduceMul, Nat.reduceDiv, Nat.reduceMod, Nat.reduceLeDiff, Nat.reduceLT, Nat.reduceBEq, Int.reduceEq, Int.reduceBEq, Int.reduceBNe, Int.reduceLT, Int.reduceLE, Int.reduceAdd, Int.reduceSub, Int.reduceNeg, Int.reduceToNat, Int.reducePow, Nat.reducePow, Int.reduceMul, Int.reduceDiv, s_law_take, hH1, hH2, bl_mk, hsl, q3, q1, ix0, hd, hH4, z1, p1, ↓enterK_eq mb, enterK_eq mb, hE, g4, hH5, f5, xload_cell]
          rfl
        · exact s05
      have sl := slT_hi (s := mk s) (q := .i64) (j := e.length) (by rw [bl_mk]; omega)
      rw [bl_mk] at sl
      by_cases hG : s.take e.length = e
      · have hG' : (s.take e.length = e) = True := by simp [hG]
        rw [if_pos ⟨by omega, hG⟩]
        refine ⟨.tuple #[.agg ⟨[.int .i64 ck, .int .u64 cu, .int .i64 ci, .string cs, .bool cb]⟩, .int .i64 (e.length : Int)], ?_, by show _ = Value.tuple #[_, .int .i64 ((enc ⟨ck, cu, ci, cs, cb⟩).length : Int)]; rw [he]; rfl⟩
        apply pure_of _ (d_law_take _ _ H) rfl
        rotate_left 2
        · simp (maxSteps := 2000000) (disch := first | with_reducible rfl | assumption | omega | rfl | (simp only [go_sem]; first | done | omega)) only [go_sem, ↓reduceIte, reduceCtorEq, Nat.reduceEqDiff, Nat.reduceAdd, Nat.reduceSub, Nat.reduceMul, Nat.reduceDiv, Nat.reduceMod, Nat.reduceLeDiff, Nat.reduceLT, Nat.reduceBEq, Int.reduceEq, Int.reduceBEq, Int.reduceBNe, Int.reduceLT, Int.reduceLE, Int.reduceAdd, Int.reduceSub, Int.reduceNeg, Int.reduceToNat, Int.reducePow, Nat.reducePow, Int.reduceMul, Int.reduceDiv, s_law_take, hH1, hH2, bl_mk, hsl, q3, q1, ix0, hd, hH4, z1, p1, ↓enterK_eq mb, enterK_eq mb, hE, sl, hG', g4, hH5, f5, xload_cell]
          rfl
        · exact s05
      · rw [if_neg (fun h => hG h.2)]
        refine ⟨_, ?_, ⟨ck, cu, ci, cs, cb⟩, rfl⟩
        apply pure_of _ (d_law_take _ _ H) rfl
        rotate_left 2
        · simp (maxSteps := 2000000) (disch := first | with_reducible rfl | assumption | omega | rfl | (simp only [go_sem]; first | done | omega)) only [go_sem, ↓reduceIte, reduceCtorEq, Nat.reduceEqDiff, Nat.reduceAdd, Nat.reduceSub, Nat.reduceMul, Nat.reduceDiv, Nat.reduceMod, Nat.reduceLeDiff, Nat.reduceLT, Nat.reduceBEq, Int.reduceEq, Int.reduceBEq, Int.reduceBNe, Int.reduceLT, Int.reduceLE, Int.reduceAdd, Int.reduceSub, Int.reduceNeg, Int.reduceToNat, Int.reducePow, Nat.reducePow, Int.reduceMul, Int.reduceDiv, s_law_take, hH1, hH2, bl_mk, hsl, q3, q1, ix0, hd, hH4, z1, p1, ↓enterK_eq mb, enterK_eq mb, hE, sl, hG, g4, hH5, f5, xload_cell]
          rfl
        · exact s05
  rw [if_neg hk4]
  refine (Classical.em (k = 2 ∧ (s0.toNat : Int) = 127)).elim (fun hk2 => ?_) fun hk2 => ?_
  · obtain ⟨hk2, h127⟩ := hk2
    subst hk2
    have e3 : lp 2 s0.toNat 1 0 ⟨2, 0, 0, mk [], false⟩ t = ⟨2, 0, 0, mk [], false⟩ := lp_127 (by omega) t 1 0 _ (by decide)
    rw [e3] at q1
    unfold Cl.l at q1
    dsimp only at q1
    rw [if_pos ⟨rfl, h127⟩]
    rw [h127] at ix0
    · obtain ⟨H4, hH4⟩ : ∃ H4, H3.set H1.n (.cells [.int .i64 2, .int .u64 0, .int .i64 (-1), .string (mk []), .bool false] T.api_Cell true) = H4 := ⟨_, rfl⟩
      have p2 : Fr (fun b => b = H1.n) H3 H4 := by rw [← hH4]; exact (Fr.refl H3).set _ _ fun _ => rfl
      have s04 : Still H H4 := s03.then p2 fun b hb h => by omega
      have g4 : H4.f H.n = .cells [.int .i64 0, .int .u64 0, .int .i64 0, .string (mk []), .bool false] T.api_Cell true := by rw [p2.f (by omega) (by omega)]; exact g3
      have z1 : ∀ K : K, l_law_take_1 (.string (mk s)) (.int .i64 2) (.pointer (some ⟨H.n, 0, none⟩)) (.pointer (some ⟨H1.n, 0, none⟩)) (.int .i64 0) H4 (blkK [0, 4, 6] 2 K) = K .normal [(0, .string (mk s)), (4, .pointer (some ⟨H.n, 0, none⟩)), (6, .pointer (some ⟨H1.n, 0, none⟩))] H4 := fun K => by
        rw [r_law_take_1]
        simp (disch := first | with_reducible rfl | assumption | omega | rfl | (simp only [go_sem]; first | done | omega)) only [go_sem, ↓reduceIte, reduceCtorEq, Nat.reduceEqDiff, Nat.reduceAdd, Nat.reduceSub, Nat.reduceMul, Nat.reduceDiv, Nat.reduceMod, Nat.reduceLeDiff, Nat.reduceLT, Nat.reduceBEq, Int.reduceEq, Int.reduceBEq, Int.reduceBNe, Int.reduceLT, Int.reduceLE, Int.reduceAdd, Int.reduceSub, Int.reduceNeg, Int.reduceToNat, Int.reducePow, Nat.reducePow, Int.reduceMul, Int.reduceDiv, ↓s_law_take_b1]
      obtain ⟨c, hc⟩ : ∃ c : Cl, (⟨2, 0, -1, mk [], false⟩ : Cl) = c := ⟨_, rfl⟩
      have cok : CellOk c := by rw [← hc]; exact ⟨⟨by simp, by simp⟩, ⟨by simp, by simp⟩, by simp⟩
      have p1 : H4.f H1.n = .cells c.l T.api_Cell true := by rw [← hc, ← hH4]; exact set_f_eq
      rw [hc]
      obtain ⟨ck, cu, ci, cs, cb⟩ := c
      have mb := q_bytesOf ⟨ck, cu, ci, cs, cb⟩ cok H4
      have el := (enc_len cok).1
      unfold chk
      generalize he : enc ⟨ck, cu, ci, cs, cb⟩ = e at mb el ⊢
      unfold Cl.l at p1 mb
      dsimp only at p1 mb
      obtain ⟨H5, hH5⟩ : ∃ H5, H4.set H.n (.cells [.int .i64 ck, .int .u64 cu, .int .i64 ci, .string cs, .bool cb] T.api_Cell true) = H5 := ⟨_, rfl⟩
      have s05 : Still H H5 := by rw [← hH5]; exact Fr.set s04 _ _ (fun h => by omega)
      have f5 : H5.f H.n = .cells [.int .i64 ck, .int .u64 cu, .int .i64 ci, .string cs, .bool cb] T.api_Cell true := by rw [← hH5]; exact set_f_eq
      by_cases hE : (s.length : Int) < (e.length : Int)
      · rw [if_neg (fun h => (by omega))]
        refine ⟨_, ?_, ⟨ck, cu, ci, cs, cb⟩, rfl⟩
        apply pure_of _ (d_law_take _ _ H) rfl
        rotate_left 2
        · simp (maxSteps := 2000000) (disch := first | with_reducible rfl | assumption | omega | rfl | (simp only [go_sem]; first | done | omega)) only [go_sem, ↓reduceIte, reduceCtorEq, Nat.reduceEqDiff, Nat.reduceAdd, Nat.reduceSub, Nat.reduceMul, Nat.reduceDiv, Nat.reduceMod, Nat.reduceLeDiff, Nat.reduceLT, Nat.reduceBEq, Int.reduceEq, Int.reduceBEq, Int.reduceBNe, Int.reduceLT, Int.reduceLE, Int.reduceAdd, Int.reduceSub, Int.reduceNeg, Int.reduceToNat, Int.reducePow, Nat.reducePow, Int.reduceMul, Int.reduceDiv, s_law_take, hH1, hH2, bl_mk, hsl, q3, q1, ix0, hH4, z1, p1, ↓enterK_eq mb, enterK_eq mb, hE, g4, hH5, f5, xload_cell]
          rfl
        · exact s05
      have sl := slT_hi (s := mk s) (q := .i64) (j := e.length) (by rw [bl_mk]; omega)
      rw [bl_mk] at sl
      by_cases hG : s.take e.length = e
      · have hG' : (s.take e.length = e) = True := by simp [hG]
        rw [if_pos ⟨by omega, hG⟩]
        refine ⟨.tuple #[.agg ⟨[.int .i64 ck, .int .u64 cu, .int .i64 ci, .string cs, .bool cb]⟩, .int .i64 (e.length : Int)], ?_, by show _ = Value.tuple #[_, .int .i64 ((enc ⟨ck, cu, ci, cs, cb⟩).length : Int)]; rw [he]; rfl⟩
        apply pure_of _ (d_law_take _ _ H) rfl
        rotate_left 2
        · simp (maxSteps := 2000000) (disch := first | with_reducible rfl | assumption | omega | rfl | (simp only [go_sem]; first | done | omega)) only [go_sem, ↓reduceIte, reduceCtorEq, Nat.reduceEqDiff, Nat.reduceAdd, Nat.reduceSub, Nat.reduceMul, Nat.reduceDiv, Nat.reduceMod, Nat.reduceLeDiff, Nat.reduceLT, Nat.reduceBEq, Int.reduceEq, Int.reduceBEq, Int.reduceBNe, Int.reduceLT, Int.reduceLE, Int.reduceAdd, Int.reduceSub, Int.reduceNeg, Int.reduceToNat, Int.reducePow, Nat.reducePow, Int.reduceMul, Int.reduceDiv, s_law_take, hH1, hH2, bl_mk, hsl, q3, q1, ix0, hH4, z1, p1, ↓enterK_eq mb, enterK_eq mb, hE, sl, hG', g4, hH5, f5, xload_cell]
          rfl
        · exact s05
      · rw [if_neg (fun h => hG h.2)]
        refine ⟨_, ?_, ⟨ck, cu, ci, cs, cb⟩, rfl⟩
        apply pure_of _ (d_law_take _ _ H) rfl
        rotate_left 2
        · simp (maxSteps := 2000000) (disch := first | with_reducible rfl | assumption | omega | rfl | (simp only [go_sem]; first | done | omega)) only [go_sem, ↓reduceIte, reduceCtorEq, Nat.reduceEqDiff, Nat.reduceAdd, Nat.reduceSub, Nat.reduceMul, Nat.reduceDiv, Nat.reduceMod, Nat.reduceLeDiff, Nat.reduceLT, Nat.reduceBEq, Int.reduceEq, Int.reduceBEq, Int.reduceBNe, Int.reduceLT, Int.reduceLE, Int.reduceAdd, Int.reduceSub, Int.reduceNeg, Int.reduceToNat, Int.reducePow, Nat.reducePow, Int.reduceMul, Int.reduceDiv, s_law_take, hH1, hH2, bl_mk, hsl, q3, q1, ix0, hH4, z1, p1, ↓enterK_eq mb, enterK_eq mb, hE, sl, hG, g4, hH5, f5, xload_cell]
          rfl
        · exact s05
  rw [if_neg hk2]
  · · have z1 : ∀ K : K, l_law_take_1 (.string (mk s)) (.int .i64 k) (.pointer (some ⟨H.n, 0, none⟩)) (.pointer (some ⟨H1.n, 0, none⟩)) (.int .i64 0) H3 (blkK [0, 4, 6] 2 K) = K .normal [(0, .string (mk s)), (4, .pointer (some ⟨H.n, 0, none⟩)), (6, .pointer (some ⟨H1.n, 0, none⟩))] H3 := fun K => by
        rw [r_law_take_1]
        simp (disch := first | with_reducible rfl | assumption | omega | rfl | (simp only [go_sem]; first | done | omega)) only [go_sem, ↓reduceIte, reduceCtorEq, Nat.reduceEqDiff, Nat.reduceAdd, Nat.reduceSub, Nat.reduceMul, Nat.reduceDiv, Nat.reduceMod, Nat.reduceLeDiff, Nat.reduceLT, Nat.reduceBEq, Int.reduceEq, Int.reduceBEq, Int.reduceBNe, Int.reduceLT, Int.reduceLE, Int.reduceAdd, Int.reduceSub, Int.reduceNeg, Int.reduceToNat, Int.reducePow, Nat.reducePow, Int.reduceMul, Int.reduceDiv, ↓s_law_take_b1, hk3]
      obtain ⟨H4, hH4⟩ : ∃ H4, H3 = H4 := ⟨_, rfl⟩
      have s04 : Still H H4 := by rw [← hH4]; exact s03
      have g4 : H4.f H.n = .cells [.int .i64 0, .int .u64 0, .int .i64 0, .string (mk []), .bool false] T.api_Cell true := by rw [← hH4]; exact g3
      obtain ⟨c, hc⟩ : ∃ c : Cl, lp k s0.toNat 1 0 ⟨k, 0, 0, mk [], false⟩ t = c := ⟨_, rfl⟩
      rw [hc] at lpok
      have cok : CellOk c := lpok
      have p1 : H4.f H1.n = .cells c.l T.api_Cell true := by rw [← hc, ← hH4]; exact q1
      rw [hc]
      have h12 : (k = 2 ∧ ¬ ((s0.toNat : Int) = 127)) ∨ ¬ k = 2 := by
        by_cases h : k = 2
        · exact .inl ⟨h, fun e => hk2 ⟨h, e⟩⟩
        · exact .inr h
      rw [hH4] at q3 z1
      rcases h12 with ⟨hk2', h127⟩ | hk2'
      · have hk2'' : (k = 2) = True := by simp [hk2']
        obtain ⟨ck, cu, ci, cs, cb⟩ := c
        have mb := q_bytesOf ⟨ck, cu, ci, cs, cb⟩ cok H4
        have el := (enc_len cok).1
        unfold chk
        generalize he : enc ⟨ck, cu, ci, cs, cb⟩ = e at mb el ⊢
        unfold Cl.l at p1 mb
        dsimp only at p1 mb
        obtain ⟨H5, hH5⟩ : ∃ H5, H4.set H.n (.cells [.int .i64 ck, .int .u64 cu, .int .i64 ci, .string cs, .bool cb] T.api_Cell true) = H5 := ⟨_, rfl⟩
        have s05 : Still H H5 := by rw [← hH5]; exact Fr.set s04 _ _ (fun h => by omega)
        have f5 : H5.f H.n = .cells [.int .i64 ck, .int .u64 cu, .int .i64 ci, .string cs, .bool cb] T.api_Cell true := by rw [← hH5]; exact set_f_eq
        by_cases hE : (s.length : Int) < (e.length : Int)
        · rw [if_neg (fun h => (by omega))]
          refine ⟨_, ?_, ⟨ck, cu, ci, cs, cb⟩, rfl⟩
          apply pure_of _ (d_law_take _ _ H) rfl
          rotate_left 2
          · simp (maxSteps := 2000000) (disch := first | with_reducible rfl | assumption | omega | rfl | (simp only [go_sem]; first | done | omega)) only [go_sem, ↓reduceIte, reduceCtorEq, Nat.reduceEqDiff, Nat.reduceAdd, Nat.reduceSub, Nat.reduceMul, Nat.reduceDiv, Nat.reduceMod, Nat.reduceLeDiff, Nat.reduceLT, Nat.reduceBEq, Int.reduceEq, Int.reduceBEq, Int.reduceBNe, Int.reduceLT, Int.reduceLE, Int.reduceAdd, Int.reduceSub, Int.reduceNeg, Int.reduceToNat, Int.reducePow, Nat.reducePow, Int.reduceMul, Int.reduceDiv, s_law_take, hH1, hH2, bl_mk, hsl, q3, hk2'', ix0, h127, hk4, z1, p1, ↓enterK_eq mb, enterK_eq mb, hE, g4, hH5, f5, xload_cell]
            rfl
          · exact s05
        have sl := slT_hi (s := mk s) (q := .i64) (j := e.length) (by rw [bl_mk]; omega)
        rw [bl_mk] at sl
        by_cases hG : s.take e.length = e
        · have hG' : (s.take e.length = e) = True := by simp [hG]
          rw [if_pos ⟨by omega, hG⟩]
          refine ⟨.tuple #[.agg ⟨[.int .i64 ck, .int .u64 cu, .int .i64 ci, .string cs, .bool cb]⟩, .int .i64 (e.length : Int)], ?_, by show _ = Value.tuple #[_, .int .i64 ((enc ⟨ck, cu, ci, cs, cb⟩).length : Int)]; rw [he]; rfl⟩
          apply pure_of _ (d_law_take _ _ H) rfl
          rotate_left 2
          · simp (maxSteps := 2000000) (disch := first | with_reducible rfl | assumption | omega | rfl | (simp only [go_sem]; first | done | omega)) only [go_sem, ↓reduceIte, reduceCtorEq, Nat.reduceEqDiff, Nat.reduceAdd, Nat.reduceSub, Nat.reduceMul, Nat.reduceDiv, Nat.reduceMod, Nat.reduceLeDiff, Nat.reduceLT, Nat.reduceBEq, Int.reduceEq, Int.reduceBEq, Int.reduceBNe, Int.reduceLT, Int.reduceLE, Int.reduceAdd, Int.reduceSub, Int.reduceNeg, Int.reduceToNat, Int.reducePow, Nat.reducePow, Int.reduceMul, Int.reduceDiv, s_law_take, hH1, hH2, bl_mk, hsl, q3, hk2'', ix0, h127, hk4, z1, p1, ↓enterK_eq mb, enterK_eq mb, hE, sl, hG', g4, hH5, f5, xload_cell]
            rfl
          · exact s05
        · rw [if_neg (fun h => hG h.2)]
          refine ⟨_, ?_, ⟨ck, cu, ci, cs, cb⟩, rfl⟩
          apply pure_of _ (d_law_take _ _ H) rfl
          rotate_left 2
          · simp (maxSteps := 2000000) (disch := first | with_reducible rfl | assumption | omega | rfl | (simp only [go_sem]; first | done | omega)) only [go_sem, ↓reduceIte, reduceCtorEq, Nat.reduceEqDiff, Nat.reduceAdd, Nat.reduceSub, Nat.reduceMul, Nat.reduceDiv, Nat.reduceMod, Nat.reduceLeDiff, Nat.reduceLT, Nat.reduceBEq, Int.reduceEq, Int.reduceBEq, Int.reduceBNe, Int.reduceLT, Int.reduceLE, Int.reduceAdd, Int.reduceSub, Int.reduceNeg, Int.reduceToNat, Int.reducePow, Nat.reducePow, Int.reduceMul, Int.reduceDiv, s_law_take, hH1, hH2, bl_mk, hsl, q3, hk2'', ix0, h127, hk4, z1, p1, ↓enterK_eq mb, enterK_eq mb, hE, sl, hG, g4, hH5, f5, xload_cell]
            rfl
          · exact s05
      · have hk2'' := hk2'
        obtain ⟨ck, cu, ci, cs, cb⟩ := c
        have mb := q_bytesOf ⟨ck, cu, ci, cs, cb⟩ cok H4
        have el := (enc_len cok).1
        unfold chk
        generalize he : enc ⟨ck, cu, ci, cs, cb⟩ = e at mb el ⊢
        unfold Cl.l at p1 mb
        dsimp only at p1 mb
        obtain ⟨H5, hH5⟩ : ∃ H5, H4.set H.n (.cells [.int .i64 ck, .int .u64 cu, .int .i64 ci, .string cs, .bool cb] T.api_Cell true) = H5 := ⟨_, rfl⟩
        have s05 : Still H H5 := by rw [← hH5]; exact Fr.set s04 _ _ (fun h => by omega)
        have f5 : H5.f H.n = .cells [.int .i64 ck, .int .u64 cu, .int .i64 ci, .string cs, .bool cb] T.api_Cell true := by rw [← hH5]; exact set_f_eq
        by_cases hE : (s.length : Int) < (e.length : Int)
        · rw [if_neg (fun h => (by omega))]
          refine ⟨_, ?_, ⟨ck, cu, ci, cs, cb⟩, rfl⟩
          apply pure_of _ (d_law_take _ _ H) rfl
          rotate_left 2
          · simp (maxSteps := 2000000) (disch := first | with_reducible rfl | assumption | omega | rfl | (simp only [go_sem]; first | done | omega)) only [go_sem, ↓reduceIte, reduceCtorEq, Nat.reduceEqDiff, Nat.reduceAdd, Nat.reduceSub, Nat.reduceMul, Nat.reduceDiv, Nat.reduceMod, Nat.reduceLeDiff, Nat.reduceLT, Nat.reduceBEq, Int.reduceEq, Int.reduceBEq, Int.reduceBNe, Int.reduceLT, Int.reduceLE, Int.reduceAdd, Int.reduceSub, Int.reduceNeg, Int.reduceToNat, Int.reducePow, Nat.reducePow, Int.reduceMul, Int.reduceDiv, s_law_take, hH1, hH2, bl_mk, hsl, q3, hk2'', hk4, z1, p1, ↓enterK_eq mb, enterK_eq mb, hE, g4, hH5, f5, xload_cell]
            rfl
          · exact s05
        have sl := slT_hi (s := mk s) (q := .i64) (j := e.length) (by rw [bl_mk]; omega)
        rw [bl_mk] at sl
        by_cases hG : s.take e.length = e
        · have hG' : (s.take e.length = e) = True := by simp [hG]
          rw [if_pos ⟨by omega, hG⟩]
          refine ⟨.tuple #[.agg ⟨[.int .i64 ck, .int .u64 cu, .int .i64 ci, .string cs, .bool cb]⟩, .int .i64 (e.length : Int)], ?_, by show _ = Value.tuple #[_, .int .i64 ((enc ⟨ck, cu, ci, cs, cb⟩).length : Int)]; rw [he]; rfl⟩
          apply pure_of _ (d_law_take _ _ H) rfl
          rotate_left 2
          · simp (maxSteps := 2000000) (disch := first | with_reducible rfl | assumption | omega | rfl | (simp only [go_sem]; first | done | omega)) only [go_sem, ↓reduceIte, reduceCtorEq, Nat.reduceEqDiff, Nat.reduceAdd, Nat.reduceSub, Nat.reduceMul, Nat.reduceDiv, Nat.reduceMod, Nat.reduceLeDiff, Nat.reduceLT, Nat.reduceBEq, Int.reduceEq, Int.reduceBEq, Int.reduceBNe, Int.reduceLT, Int.reduceLE, Int.reduceAdd, Int.reduceSub, Int.reduceNeg, Int.reduceToNat, Int.reducePow, Nat.reducePow, Int.reduceMul, Int.reduceDiv, s_law_take, hH1, hH2, bl_mk, hsl, q3, hk2'', hk4, z1, p1, ↓enterK_eq mb, enterK_eq mb, hE, sl, hG', g4, hH5, f5, xload_cell]
            rfl
          · exact s05
        · rw [if_neg (fun h => hG h.2)]
          refine ⟨_, ?_, ⟨ck, cu, ci, cs, cb⟩, rfl⟩
          apply pure_of _ (d_law_take _ _ H) rfl
          rotate_left 2
          · simp (maxSteps := 2000000) (disch := first | with_reducible rfl | assumption | omega | rfl | (simp only [go_sem]; first | done | omega)) only [go_sem, ↓reduceIte, reduceCtorEq, Nat.reduceEqDiff, Nat.reduceAdd, Nat.reduceSub, Nat.reduceMul, Nat.reduceDiv, Nat.reduceMod, Nat.reduceLeDiff, Nat.reduceLT, Nat.reduceBEq, Int.reduceEq, Int.reduceBEq, Int.reduceBNe, Int.reduceLT, Int.reduceLE, Int.reduceAdd, Int.reduceSub, Int.reduceNeg, Int.reduceToNat, Int.reducePow, Nat.reducePow, Int.reduceMul, Int.reduceDiv, s_law_take, hH1, hH2, bl_mk, hsl, q3, hk2'', hk4, z1, p1, ↓enterK_eq mb, enterK_eq mb, hE, sl, hG, g4, hH5, f5, xload_cell]
            rfl
          · exact s05

end Go.Proofs.YtlmhioanjmhaiaaDoor

/-
  Chapter 40: plain: the law's own take finds just the cell whose bytes are there.
  Conditions: none. By an AI agent.
-/
set_option maxRecDepth 10000
set_option linter.unusedSimpArgs false
set_option linter.unusedVariables false
namespace Go.Proofs.YtlmhioanjmhaiaaDoor
open Go Eng

theorem lpS_prop {k : Int} {s0 i N : Nat} {c : Cl} : (lpS k s0 i N c).kind = c.kind ∧ (k = 1 ∨ (lpS k s0 i N c).u = c.u) ∧ (k = 2 ∨ (lpS k s0 i N c).i = c.i) ∧ (lpS k s0 i N c).s = c.s ∧ (lpS k s0 i N c).b = c.b := by
  unfold lpS
  split
  · rename_i h; exact ⟨rfl, .inl h.1, .inr rfl, rfl, rfl⟩
  · split
    · rename_i h; exact ⟨rfl, .inr rfl, .inl h.1, rfl, rfl⟩
    · split
      · rename_i h; exact ⟨rfl, .inr rfl, .inl h.1, rfl, rfl⟩
      · exact ⟨rfl, .inr rfl, .inr rfl, rfl, rfl⟩
theorem lp_prop {k : Int} {s0 : Nat} : ∀ (t : List UInt8) (i n : Nat) (c : Cl), (lp k s0 i n c t).kind = c.kind ∧ (k = 1 ∨ (lp k s0 i n c t).u = c.u) ∧ (k = 2 ∨ (lp k s0 i n c t).i = c.i) ∧ (lp k s0 i n c t).s = c.s ∧ (lp k s0 i n c t).b = c.b
  | [], _, _, _ => ⟨rfl, .inr rfl, .inr rfl, rfl, rfl⟩
  | x :: t, i, n, c => by
    rw [lp]
    split
    · exact ⟨rfl, .inr rfl, .inr rfl, rfl, rfl⟩
    · obtain ⟨a1, a2, a3, a4, a5⟩ := lp_prop (k := k) (s0 := s0) t (i + 1) (n * 256 + x.toNat) (lpS k s0 i (n * 256 + x.toNat) c)
      obtain ⟨b1, b2, b3, b4, b5⟩ := lpS_prop (k := k) (s0 := s0) (i := i) (N := n * 256 + x.toNat) (c := c)
      refine ⟨a1.trans b1, ?_, ?_, a4.trans b4, a5.trans b5⟩
      · rcases a2 with h | h
        · exact .inl h
        · rcases b2 with h' | h'
          · exact .inl h'
          · exact .inr (h.trans h')
      · rcases a3 with h | h
        · exact .inl h
        · rcases b3 with h' | h'
          · exact .inl h'
          · exact .inr (h.trans h')
theorem chk_some {c c' : Cl} {s : List UInt8} (h : chk c s = some c') : c' = c ∧ s = enc c ++ s.drop (enc c).length := by
  unfold chk at h
  split at h
  · rename_i h1
    cases h
    refine ⟨rfl, ?_⟩
    have := List.take_append_drop (enc c).length s
    rw [h1.2] at this
    exact this.symm
  · cases h
theorem ltk_A {k : Int} {s : List UInt8} {c : Cl} (hk : kindP k = true) (hl : s.length ≤ 1000) (h : ltk k s = some c) : CellOk c ∧ properP c k = true ∧ s = enc c ++ s.drop (enc c).length := by
  cases s with
  | nil => cases h
  | cons s0 t =>
    have h : ltkC k s0 t = some c := h
    unfold ltkC at h
    split at h
    · rename_i h3
      cases ht : tx [] (s0 :: t) with
      | none => rw [ht] at h; cases h
      | some w =>
        rw [ht] at h
        obtain ⟨rfl, h2⟩ := chk_some h
        have := tx_len _ _ _ ht
        refine ⟨⟨⟨by simp, by simp⟩, ⟨by simp, by simp⟩, by dsimp only; rw [bl_mk]; simp at this hl ⊢; omega⟩, ?_, h2⟩
        subst h3; unfold properP; simp
    · split at h
      · rename_i h4
        obtain ⟨rfl, h2⟩ := chk_some h
        refine ⟨⟨⟨by simp, by simp⟩, ⟨by simp, by simp⟩, by simp⟩, ?_, h2⟩
        subst h4; unfold properP; simp
      · split at h
        · rename_i h2
          obtain ⟨rfl, h2'⟩ := chk_some h
          refine ⟨⟨⟨by simp, by simp⟩, ⟨by simp, by simp⟩, by simp⟩, ?_, h2'⟩
          rw [h2.1]; unfold properP; simp
        · obtain ⟨rfl, h2'⟩ := chk_some h
          have lpok := lp_ok (k := k) (s0 := s0.toNat) t 1 0 ⟨k, 0, 0, mk [], false⟩ ⟨⟨by simp, by simp⟩, ⟨by simp, by simp⟩, by simp⟩ (by decide) (by decide) (by decide)
          obtain ⟨a1, a2, a3, a4, a5⟩ := lp_prop (k := k) (s0 := s0.toNat) t 1 0 ⟨k, 0, 0, mk [], false⟩
          refine ⟨lpok, ?_, h2'⟩
          unfold properP
          simp only [decide_eq_true_eq]
          exact ⟨a1, a2, a3, .inr (by rw [a4]; simp), .inr a5⟩

theorem lp_miss {k : Int} {s0 : Nat} : ∀ (t : List UInt8) (i n : Nat) (c : Cl), (∀ j N c, i ≤ j → lpS k s0 j N c = c) → lp k s0 i n c t = c
  | [], _, _, _, _ => rfl
  | x :: t, i, n, c, h => by
    rw [lp]
    split
    · rfl
    · rw [h i _ c (Nat.le_refl _)]
      exact lp_miss t (i + 1) _ c fun j N c hj => h j N c (by omega)
theorem lp_hit {k : Int} {s0 m : Nat} (hne : ∀ j N c, j ≠ m → lpS k s0 j N c = c) (h8 : m ≤ 8) : ∀ (t : List UInt8) (i n : Nat) (c : Cl), i ≤ m → m - i < t.length → lp k s0 i n c t = lpS k s0 m (numF n (t.take (m - i + 1))) c
  | [], _, _, _, _, h => by simp at h
  | x :: t, i, n, c, hi, h => by
    rw [lp, if_neg (by omega), List.take_succ_cons, numF]
    by_cases he : i = m
    · subst he
      rw [lp_miss t (i + 1) _ _ fun j N c hj => hne j N c (by omega), Nat.sub_self]
      rfl
    · rw [hne i _ c he, lp_hit hne h8 t (i + 1) _ c (by omega) (by simp at h; omega), show m - (i + 1) + 1 = m - i by omega]
theorem numF_inv : ∀ (l : List UInt8) (a b : Nat), numF a (l.map inv8) + numF b l + 1 = (a + b + 1) * 256 ^ l.length
  | [], a, b => by simp [numF]
  | c :: l, a, b => by
    have h := numF_inv l (a * 256 + (inv8 c).toNat) (b * 256 + c.toNat)
    have hc := c.toNat_lt
    have hi : (inv8 c).toNat = 255 - c.toNat := by8_nat (by omega)
    rw [List.map_cons, numF, numF, h, List.length_cons, Nat.pow_succ, Nat.mul_comm (256 ^ l.length) 256, ← Nat.mul_assoc, hi]
    congr 1
    omega
theorem chk_enc (c : Cl) (r : List UInt8) : chk c (enc c ++ r) = some c := by
  unfold chk
  rw [if_pos ⟨by simp, List.take_left' rfl⟩]
theorem tx_esc : ∀ (w acc r : List UInt8), tx acc (esc w ++ 0 :: 1 :: r) = some (acc ++ w)
  | [], acc, r => by simp [esc, tx]
  | c :: w, acc, r => by
    by_cases h : c = 0
    · subst h
      simp only [esc, if_true, List.cons_append]
      rw [tx, if_pos rfl, if_neg (by decide), tx_esc w]
      simp
    · have ih := tx_esc w (acc ++ [c]) r
      simp only [esc, h, if_false, List.cons_append]
      obtain ⟨d, t, hd⟩ : ∃ d t, esc w ++ 0 :: 1 :: r = d :: t := by
        cases esc w with
        | nil => exact ⟨_, _, rfl⟩
        | cons a b => exact ⟨_, _, rfl⟩
      rw [hd] at ih ⊢
      rw [tx, if_neg h, ih]
      simp

theorem ltk_B {c : Cl} {k : Int} (hk : kindP k = true) (hc : CellOk c) (hp : properP c k = true) (r : List UInt8) : ltk k (enc c ++ r) = some c := by
  have hce := chk_enc c r
  obtain ⟨k1, u1, i1, s1, b1⟩ := c
  unfold properP at hp
  simp only [decide_eq_true_eq] at hp
  obtain ⟨rfl, hu, hi, hs, hb⟩ := hp
  obtain ⟨⟨hu0, hu1⟩, ⟨hi0, hi1⟩, hsl⟩ := hc
  dsimp only at hu0 hu1 hi0 hi1 hsl
  have p8 : (256 : Nat) ^ 8 = 18446744073709551616 := by decide
  obtain ⟨e, he⟩ : ∃ e, enc ⟨k1, u1, i1, s1, b1⟩ = e := ⟨_, rfl⟩
  have he' := he
  rw [he] at hce ⊢
  unfold enc at he
  dsimp only at he
  by_cases h1 : k1 = 1
  · subst h1
    have hi := hi.resolve_left (by decide); have hs := mk_nil (hs.resolve_left (by decide)); have hb := hb.resolve_left (by decide)
    subst hi hs hb
    have hl := dg_len 8 u1.toNat (by omega)
    rw [if_pos rfl] at he
    subst he
    show ltkC 1 (by8 (dg u1.toNat).length) (dg u1.toNat ++ r) = _
    unfold ltkC
    rw [if_neg (by decide), if_neg (by decide), if_neg (fun h => absurd h.1 (by decide)), by8_nat (by omega)]
    have e2 : lp 1 (dg u1.toNat).length 1 0 ⟨1, 0, 0, mk [], false⟩ (dg u1.toNat ++ r) = ⟨1, u1, 0, mk [], false⟩ := by
      by_cases h0 : (dg u1.toNat).length = 0
      · rw [lp_miss _ _ _ _ fun j N c hj => by unfold lpS; rw [if_neg (fun h => by omega), if_neg (fun h => by omega), if_neg (fun h => by omega)]]
        have hn := numF_dg 8 u1.toNat (by omega)
        rw [List.length_eq_zero_iff.1 h0] at hn
        have hn : 0 = u1.toNat := hn
        congr 1
        omega
      · rw [lp_hit (m := (dg u1.toNat).length) (fun j N c hj => by unfold lpS; rw [if_neg (fun h => by omega), if_neg (fun h => by omega), if_neg (fun h => by omega)]) hl _ _ _ _ (by omega) (by simp; omega), show (dg u1.toNat).length - 1 + 1 = (dg u1.toNat).length by omega, List.take_left' rfl, numF_dg 8 u1.toNat (by omega)]
        unfold lpS
        rw [if_pos ⟨rfl, rfl⟩]
        congr 1
        omega
    rw [e2]
    exact hce
  rw [if_neg h1] at he
  have hu := hu.resolve_left h1
  subst hu
  by_cases h2 : k1 = 2
  · subst h2
    have hs := mk_nil (hs.resolve_left (by decide)); have hb := hb.resolve_left (by decide)
    subst hs hb
    rw [if_pos rfl] at he
    by_cases h0 : 0 ≤ i1
    · have hl := dg_len 8 i1.toNat (by omega)
      rw [if_pos h0] at he
      subst he
      show ltkC 2 (by8 (128 + (dg i1.toNat).length)) (dg i1.toNat ++ r) = _
      unfold ltkC
      rw [if_neg (by decide), if_neg (by decide), by8_nat (by omega), if_neg (fun h => by omega)]
      have e2 : lp 2 (128 + (dg i1.toNat).length) 1 0 ⟨2, 0, 0, mk [], false⟩ (dg i1.toNat ++ r) = ⟨2, 0, i1, mk [], false⟩ := by
        by_cases h0 : (dg i1.toNat).length = 0
        · rw [lp_miss _ _ _ _ fun j N c hj => by unfold lpS; rw [if_neg (fun h => by omega), if_neg (fun h => by omega), if_neg (fun h => by omega)]]
          have hn := numF_dg 8 i1.toNat (by omega)
          rw [List.length_eq_zero_iff.1 h0] at hn
          have hn : 0 = i1.toNat := hn
          congr 1
          omega
        · rw [lp_hit (m := (dg i1.toNat).length) (fun j N c hj => by unfold lpS; rw [if_neg (fun h => by omega), if_neg (fun h => by omega), if_neg (fun h => by omega)]) hl _ _ _ _ (by omega) (by simp; omega), show (dg i1.toNat).length - 1 + 1 = (dg i1.toNat).length by omega, List.take_left' rfl, numF_dg 8 i1.toNat (by omega)]
          unfold lpS
          rw [if_neg (fun h => by omega), if_pos ⟨rfl, rfl⟩, show ((i1.toNat : Nat) : Int) = i1 by omega, wrap_i64 ⟨by omega, by omega⟩]
      rw [e2]
      exact hce
    · obtain ⟨j, hj⟩ : ∃ j : Nat, -(i1 + 1) = j := ⟨(-(i1 + 1)).toNat, by omega⟩
      rw [if_neg h0, hj, Int.toNat_natCast] at he
      have hl := dg_len 8 j (by omega)
      subst he
      show ltkC 2 (by8 (127 - (dg j).length)) ((dg j).map inv8 ++ r) = _
      unfold ltkC
      rw [if_neg (by decide), if_neg (by decide), by8_nat (by omega)]
      by_cases hz : (dg j).length = 0
      · have hn := numF_dg 8 j (by omega)
        rw [List.length_eq_zero_iff.1 hz] at hn
        have hn : 0 = j := hn
        rw [if_pos ⟨rfl, by omega⟩]
        have : i1 = -1 := by omega
        subst this
        exact hce
      · rw [if_neg (fun h => by omega)]
        have e2 : lp 2 (127 - (dg j).length) 1 0 ⟨2, 0, 0, mk [], false⟩ ((dg j).map inv8 ++ r) = ⟨2, 0, i1, mk [], false⟩ := by
          have hm : ((dg j).map inv8).length = (dg j).length := by simp
          rw [lp_hit (m := (dg j).length) (fun j N c hj => by unfold lpS; rw [if_neg (fun h => by omega), if_neg (fun h => by omega), if_neg (fun h => by omega)]) hl _ _ _ _ (by omega) (by simp; omega), show (dg j).length - 1 + 1 = (dg j).length by omega, List.take_left' hm]
          unfold lpS
          rw [if_neg (fun h => by omega), if_neg (fun h => by omega), if_pos ⟨rfl, by omega⟩]
          have hv := numF_inv (dg j) 0 0
          rw [numF_dg 8 j (by omega)] at hv
          have : 256 ^ (dg j).length - 1 - numF 0 ((dg j).map inv8) = j := by omega
          rw [this, wrap_i64 (n := (j : Int)) ⟨by omega, by omega⟩, wrap_i64 (n := -(j : Int)) ⟨by omega, by omega⟩, wrap_i64 (n := -(j : Int) - 1) ⟨by omega, by omega⟩, show -(j : Int) - 1 = i1 by omega]
        rw [e2]
        exact hce
  rw [if_neg h2] at he
  have hi := hi.resolve_left h2
  subst hi
  by_cases h3 : k1 = 3
  · subst h3
    have hb := hb.resolve_left (by decide)
    subst hb
    rw [if_pos rfl] at he
    have et := tx_esc (bl s1) [] r
    rw [List.nil_append, show esc (bl s1) ++ 0 :: 1 :: r = e ++ r by rw [← he]; simp] at et
    obtain ⟨x, t, hx⟩ : ∃ x t, e ++ r = x :: t := by
      rw [← he]
      cases esc (bl s1) with
      | nil => exact ⟨_, _, rfl⟩
      | cons a b => exact ⟨_, _, rfl⟩
    rw [hx] at et hce ⊢
    show ltkC 3 x t = _
    unfold ltkC
    rw [if_pos rfl, et]
    show chk ⟨3, 0, 0, mk (bl s1), false⟩ (x :: t) = _
    rw [mk_bl]
    exact hce
  rw [if_neg h3] at he
  have hs := mk_nil (hs.resolve_left h3)
  subst hs
  have h4 : k1 = 4 := by
    unfold kindP at hk
    simp only [Bool.and_eq_true, decide_eq_true_eq] at hk
    omega
  subst h4
  cases b1 with
  | true =>
    rw [if_pos rfl] at he
    subst he
    show ltkC 4 1 r = _
    unfold ltkC
    rw [if_neg (by decide), if_pos rfl]
    exact hce
  | false =>
    rw [if_neg (by decide)] at he
    subst he
    show ltkC 4 0 r = _
    unfold ltkC
    rw [if_neg (by decide), if_pos rfl]
    exact hce

end Go.Proofs.YtlmhioanjmhaiaaDoor

/-
  Chapter 40: found.
  Conditions: none. By an AI agent.
-/
set_option maxRecDepth 10000
set_option linter.unusedSimpArgs false
set_option linter.unusedVariables false
namespace Go.Proofs.YtlmhioanjmhaiaaDoor
open Go Eng

/-- found's loop: kinds, the key's bytes, the value's bytes. -/
def fl (nk : Nat) : Nat → List Int → List UInt8 → List UInt8 → Option (List Cl × List UInt8 × List UInt8)
  | _, [], key, val => some ([], key, val)
  | i, k :: ks, key, val =>
    if i < nk then (match ltk k key with | none => none | some c => (fl nk (i + 1) ks (key.drop (enc c).length) val).map fun r => (c :: r.1, r.2))
    else (match ltk k val with | none => none | some c => (fl nk (i + 1) ks key (val.drop (enc c).length)).map fun r => (c :: r.1, r.2))

set_option maxHeartbeats 1000000 in
theorem l_found (n : Int) (kv rv : Value) (kl rl : List Int) (bt : Nat) (H0 : AHeap) (hk : KR H0 kv kl) (hr : KR H0 rv rl) (hf : H0.f bt = .cells [.int .i64 n, kv, rv] T.api_Table true) (hb : bt < H0.n) (h8 : kl.length ≤ 8) (h8' : rl.length ≤ 8) (hkk : ∀ k ∈ kl ++ rl, kindP k = true) : ∀ (t : List Int) (i : Nat) (H : AHeap) (v : Value) (o : List Cl) (key val : List UInt8), (kl ++ rl).drop i = t → key.length ≤ 1000 → val.length ≤ 1000 → o.length ≤ 100 + i → SinceE ECl T.api_Cell H0 H v o →
    (fl kl.length i t key val = none → ∃ H', Still H0 H' ∧ ∀ K : K, l_law_found_0 (.string (mk key)) (.string (mk val)) (.pointer (some ⟨bt, 0, none⟩)) v (.int .i64 (i : Int)) H (blkK [1, 2, 8] 0 K) = K .ret [(6, .slice none 0 0), (7, .bool false)] H') ∧
    (∀ l x y, fl kl.length i t key val = some (l, x, y) → ∃ v' H', SinceE ECl T.api_Cell H0 H' v' (o ++ l) ∧ ∀ K : K, l_law_found_0 (.string (mk key)) (.string (mk val)) (.pointer (some ⟨bt, 0, none⟩)) v (.int .i64 (i : Int)) H (blkK [1, 2, 8] 0 K) = K .normal [(1, .string (mk x)), (2, .string (mk y)), (8, v')] H')
  | [], i, H, v, o, key, val, hx, h1, h2, ho, so => by
    have h : (kl ++ rl).length ≤ i := List.drop_eq_nil_iff.1 hx
    have lk := hk.1.lenS
    have lr := hr.1.lenS
    have hlt : ¬ (i : Int) < (kl.length : Int) + (rl.length : Int) := by simp at h; omega
    have f : H.f bt = .cells [.int .i64 n, kv, rv] T.api_Table true := by rw [so.still.f hb fun h => h]; exact hf
    refine ⟨fun h => (by simp [fl] at h), fun l x y hl => ?_⟩
    cases hl
    refine ⟨v, H, by simpa using so, fun K => ?_⟩
    rw [r_law_found_0]
    simp (disch := first | with_reducible rfl | assumption | omega | rfl | (simp only [go_sem]; first | done | omega)) only [go_sem, ↓reduceIte, reduceCtorEq, Nat.reduceEqDiff, Nat.reduceAdd, Nat.reduceSub, Nat.reduceMul, Nat.reduceDiv, Nat.reduceMod, Nat.reduceLeDiff, Nat.reduceLT, Nat.reduceBEq, Int.reduceEq, Int.reduceBEq, Int.reduceBNe, Int.reduceLT, Int.reduceLE, Int.reduceAdd, Int.reduceSub, Int.reduceNeg, Int.reduceToNat, Int.reducePow, Nat.reducePow, Int.reduceMul, Int.reduceDiv, ↓s_law_found_b0, f, lk, lr, hlt]
  | k :: t, i, H, v, o, key, val, hx, h1, h2, ho, so => by
    obtain ⟨h, hxa, hx'⟩ := drop_cons hx
    have lk := hk.1.lenS
    have lr := hr.1.lenS
    have hlt : (i : Int) < (kl.length : Int) + (rl.length : Int) := by simp at h; omega
    have f : H.f bt = .cells [.int .i64 n, kv, rv] T.api_Table true := by rw [so.still.f hb fun h => h]; exact hf
    have hkp := hkk k (by rw [← hxa]; exact List.getElem_mem h)
    have m1 := q_kindAt n kv rv kl rl i H (hk.still so.still) (hr.still so.still) (by omega) (by omega) h
    rw [hxa] at m1
    have f' : ∀ {H'}, Still H H' → H'.f bt = .cells [.int .i64 n, kv, rv] T.api_Table true := fun s => by rw [(so.still.trans s).f hb fun h => h]; exact hf
    rw [fl]
    by_cases hi : i < kl.length
    · have hi' : ¬ (kl.length : Int) ≤ (i : Int) := by omega
      have hi2 : (i : Int) < (kl.length : Int) := by omega
      rw [if_pos hi]
      obtain ⟨r, m2, hr2⟩ := q_ltake k key H hkp h1
      cases hq : ltk k key with
      | none =>
        rw [hq] at hr2
        obtain ⟨⟨ck, cu, ci, cs, cb⟩, rfl⟩ := hr2
        unfold Cl.l at m2
        dsimp only at m2
        refine ⟨fun _ => ?_, fun l x y h => (by simp at h)⟩
        obtain ⟨H1, hH1⟩ : ∃ H1, (H.push (.cells [.int .i64 0, .int .u64 0, .int .i64 0, .string (mk []), .bool false] T.api_Cell true)).set H.n (.cells [.int .i64 ck, .int .u64 cu, .int .i64 ci, .string cs, .bool cb] T.api_Cell true) = H1 := ⟨_, rfl⟩
        have s1 : Still H H1 := by rw [← hH1]; exact Fr.set ((Fr.refl H).push _) _ _ (fun h => by omega)
        refine ⟨H1, so.still.trans s1, fun K => ?_⟩
        rw [r_law_found_0]
        simp (disch := first | with_reducible rfl | assumption | omega | rfl | (simp only [go_sem]; first | done | omega)) only [go_sem, ↓reduceIte, reduceCtorEq, Nat.reduceEqDiff, Nat.reduceAdd, Nat.reduceSub, Nat.reduceMul, Nat.reduceDiv, Nat.reduceMod, Nat.reduceLeDiff, Nat.reduceLT, Nat.reduceBEq, Int.reduceEq, Int.reduceBEq, Int.reduceBNe, Int.reduceLT, Int.reduceLE, Int.reduceAdd, Int.reduceSub, Int.reduceNeg, Int.reduceToNat, Int.reducePow, Nat.reducePow, Int.reduceMul, Int.reduceDiv, ↓s_law_found_b0, f, lk, lr, hlt, hi', ↓enterK_eq m1, enterK_eq m1, ↓enterK_eq m2, enterK_eq m2, hH1]
      | some c =>
        rw [hq] at hr2
        obtain ⟨cok, _, _⟩ := ltk_A hkp h1 hq
        have hel := (enc_len cok).2
        have hr2 : r = .tuple #[.agg ⟨c.l⟩, .int .i64 ((enc c).length : Int)] := hr2
        subst hr2
        have hn0 : ¬ (((enc c).length : Int) = 0) := fun e => hel (List.length_eq_zero_iff.1 (by omega))
        have hle : (enc c).length ≤ key.length := by
          have := (ltk_A hkp h1 hq).2.2
          have := congrArg List.length this
          simp at this; omega
        have sl := slT_lo (s := mk key) (q := .i64) (i := (enc c).length) (by rw [bl_mk]; exact hle)
        rw [bl_mk] at sl
        obtain ⟨ck, cu, ci, cs, cb⟩ := c
        have m2 : CC F.law_take [.string (mk key), .int .i64 k] H = some (.tuple #[.agg ⟨[.int .i64 ck, .int .u64 cu, .int .i64 ci, .string cs, .bool cb]⟩, .int .i64 ((enc ⟨ck, cu, ci, cs, cb⟩).length : Int)], H) := m2
        obtain ⟨H1, hH1⟩ : ∃ H1, (H.push (.cells [.int .i64 0, .int .u64 0, .int .i64 0, .string (mk []), .bool false] T.api_Cell true)).set H.n (.cells [.int .i64 ck, .int .u64 cu, .int .i64 ci, .string cs, .bool cb] T.api_Cell true) = H1 := ⟨_, rfl⟩
        have s1 : Still H H1 := by rw [← hH1]; exact Fr.set ((Fr.refl H).push _) _ _ (fun h => by omega)
        have f1 : H1.f H.n = .cells [.int .i64 ck, .int .u64 cu, .int .i64 ci, .string cs, .bool cb] T.api_Cell true := by rw [← hH1]; exact set_f_eq
        obtain ⟨H2, hH2⟩ : ∃ H2, H1.push (.cells [.int .i64 ck, .int .u64 cu, .int .i64 ci, .string cs, .bool cb] T.api_Cell true) = H2 := ⟨_, rfl⟩
        have hH2' : H1.push (.cells (ECl.cells [⟨ck, cu, ci, cs, cb⟩]) T.api_Cell true) = H2 := hH2
        obtain ⟨v3', H3, a3, s3⟩ := (so.to s1).lit (sz := 5) (bytes := 48) [⟨ck, cu, ci, cs, cb⟩] rfl (by decide) hH2' (by simp at h ⊢; omega)
        have a3 : Eng.app T.api_Cell 5 48 v (srcS 5 (.slice (some ⟨H1.n, 0, none⟩) 1 2) H2) H2 = some (v3', H3) := a3
        have f3 : H3.f bt = .cells [.int .i64 n, kv, rv] T.api_Table true := by rw [s3.still.f hb fun h => h]; exact hf
        obtain ⟨k1, k2⟩ := l_found n kv rv kl rl bt H0 hk hr hf hb h8 h8' hkk t (i + 1) H3 v3' (o ++ [⟨ck, cu, ci, cs, cb⟩]) (key.drop (enc ⟨ck, cu, ci, cs, cb⟩).length) val hx' (by simp; omega) h2 (by simp; omega) s3
        rw [Int.natCast_add] at k1 k2
        show (Option.map _ (fl kl.length (i + 1) t (key.drop (enc ⟨ck, cu, ci, cs, cb⟩).length) val) = none → _) ∧ (∀ l x y, Option.map _ (fl kl.length (i + 1) t (key.drop (enc ⟨ck, cu, ci, cs, cb⟩).length) val) = some (l, x, y) → _)
        generalize ((enc ⟨ck, cu, ci, cs, cb⟩).length : Int) = eN at m2 hn0 sl
        generalize key.drop (enc ⟨ck, cu, ci, cs, cb⟩).length = dk at sl k1 k2 ⊢
        refine ⟨fun h3 => ?_, fun l x y h3 => ?_⟩
        · obtain ⟨H', s', e'⟩ := k1 (by cases hz : fl kl.length (i + 1) t dk val with | none => rfl | some q => rw [hz] at h3; cases h3)
          refine ⟨H', s', fun K => ?_⟩
          have := e' K
          rw [r_law_found_0]
          simp (disch := first | with_reducible rfl | assumption | omega | rfl | (simp only [go_sem]; first | done | omega)) only [go_sem, ↓reduceIte, reduceCtorEq, Nat.reduceEqDiff, Nat.reduceAdd, Nat.reduceSub, Nat.reduceMul, Nat.reduceDiv, Nat.reduceMod, Nat.reduceLeDiff, Nat.reduceLT, Nat.reduceBEq, Int.reduceEq, Int.reduceBEq, Int.reduceBNe, Int.reduceLT, Int.reduceLE, Int.reduceAdd, Int.reduceSub, Int.reduceNeg, Int.reduceToNat, Int.reducePow, Nat.reducePow, Int.reduceMul, Int.reduceDiv, ↓s_law_found_b0, f, lk, lr, hlt, hi', ↓enterK_eq m1, enterK_eq m1, ↓enterK_eq m2, enterK_eq m2, hH1, hn0, f1, hH2, a3, f3, hi2, sl]
          exact this
        · obtain ⟨⟨l', x', y'⟩, h4, h5⟩ := Option.map_eq_some_iff.1 h3
          cases h5
          obtain ⟨v', H', s', e'⟩ := k2 l' x y h4
          refine ⟨v', H', by simpa using s', fun K => ?_⟩
          have := e' K
          rw [r_law_found_0]
          simp (disch := first | with_reducible rfl | assumption | omega | rfl | (simp only [go_sem]; first | done | omega)) only [go_sem, ↓reduceIte, reduceCtorEq, Nat.reduceEqDiff, Nat.reduceAdd, Nat.reduceSub, Nat.reduceMul, Nat.reduceDiv, Nat.reduceMod, Nat.reduceLeDiff, Nat.reduceLT, Nat.reduceBEq, Int.reduceEq, Int.reduceBEq, Int.reduceBNe, Int.reduceLT, Int.reduceLE, Int.reduceAdd, Int.reduceSub, Int.reduceNeg, Int.reduceToNat, Int.reducePow, Nat.reducePow, Int.reduceMul, Int.reduceDiv, ↓s_law_found_b0, f, lk, lr, hlt, hi', ↓enterK_eq m1, enterK_eq m1, ↓enterK_eq m2, enterK_eq m2, hH1, hn0, f1, hH2, a3, f3, hi2, sl]
          exact this
    · have hi' : (kl.length : Int) ≤ (i : Int) := by omega
      have hi2 : ¬ (i : Int) < (kl.length : Int) := by omega
      rw [if_neg hi]
      obtain ⟨r, m2, hr2⟩ := q_ltake k val H hkp h2
      cases hq : ltk k val with
      | none =>
        rw [hq] at hr2
        obtain ⟨⟨ck, cu, ci, cs, cb⟩, rfl⟩ := hr2
        unfold Cl.l at m2
        dsimp only at m2
        refine ⟨fun _ => ?_, fun l x y h => (by simp at h)⟩
        obtain ⟨H1, hH1⟩ : ∃ H1, (H.push (.cells [.int .i64 0, .int .u64 0, .int .i64 0, .string (mk []), .bool false] T.api_Cell true)).set H.n (.cells [.int .i64 ck, .int .u64 cu, .int .i64 ci, .string cs, .bool cb] T.api_Cell true) = H1 := ⟨_, rfl⟩
        have s1 : Still H H1 := by rw [← hH1]; exact Fr.set ((Fr.refl H).push _) _ _ (fun h => by omega)
        refine ⟨H1, so.still.trans s1, fun K => ?_⟩
        rw [r_law_found_0]
        simp (disch := first | with_reducible rfl | assumption | omega | rfl | (simp only [go_sem]; first | done | omega)) only [go_sem, ↓reduceIte, reduceCtorEq, Nat.reduceEqDiff, Nat.reduceAdd, Nat.reduceSub, Nat.reduceMul, Nat.reduceDiv, Nat.reduceMod, Nat.reduceLeDiff, Nat.reduceLT, Nat.reduceBEq, Int.reduceEq, Int.reduceBEq, Int.reduceBNe, Int.reduceLT, Int.reduceLE, Int.reduceAdd, Int.reduceSub, Int.reduceNeg, Int.reduceToNat, Int.reducePow, Nat.reducePow, Int.reduceMul, Int.reduceDiv, ↓s_law_found_b0, f, lk, lr, hlt, hi', ↓enterK_eq m1, enterK_eq m1, ↓enterK_eq m2, enterK_eq m2, hH1]
      | some c =>
        rw [hq] at hr2
        obtain ⟨cok, _, _⟩ := ltk_A hkp h2 hq
        have hel := (enc_len cok).2
        have hr2 : r = .tuple #[.agg ⟨c.l⟩, .int .i64 ((enc c).length : Int)] := hr2
        subst hr2
        have hn0 : ¬ (((enc c).length : Int) = 0) := fun e => hel (List.length_eq_zero_iff.1 (by omega))
        have hle : (enc c).length ≤ val.length := by
          have := (ltk_A hkp h2 hq).2.2
          have := congrArg List.length this
          simp at this; omega
        have sl := slT_lo (s := mk val) (q := .i64) (i := (enc c).length) (by rw [bl_mk]; exact hle)
        rw [bl_mk] at sl
        obtain ⟨ck, cu, ci, cs, cb⟩ := c
        have m2 : CC F.law_take [.string (mk val), .int .i64 k] H = some (.tuple #[.agg ⟨[.int .i64 ck, .int .u64 cu, .int .i64 ci, .string cs, .bool cb]⟩, .int .i64 ((enc ⟨ck, cu, ci, cs, cb⟩).length : Int)], H) := m2
        obtain ⟨H1, hH1⟩ : ∃ H1, (H.push (.cells [.int .i64 0, .int .u64 0, .int .i64 0, .string (mk []), .bool false] T.api_Cell true)).set H.n (.cells [.int .i64 ck, .int .u64 cu, .int .i64 ci, .string cs, .bool cb] T.api_Cell true) = H1 := ⟨_, rfl⟩
        have s1 : Still H H1 := by rw [← hH1]; exact Fr.set ((Fr.refl H).push _) _ _ (fun h => by omega)
        have f1 : H1.f H.n = .cells [.int .i64 ck, .int .u64 cu, .int .i64 ci, .string cs, .bool cb] T.api_Cell true := by rw [← hH1]; exact set_f_eq
        obtain ⟨H2, hH2⟩ : ∃ H2, H1.push (.cells [.int .i64 ck, .int .u64 cu, .int .i64 ci, .string cs, .bool cb] T.api_Cell true) = H2 := ⟨_, rfl⟩
        have hH2' : H1.push (.cells (ECl.cells [⟨ck, cu, ci, cs, cb⟩]) T.api_Cell true) = H2 := hH2
        obtain ⟨v3', H3, a3, s3⟩ := (so.to s1).lit (sz := 5) (bytes := 48) [⟨ck, cu, ci, cs, cb⟩] rfl (by decide) hH2' (by simp at h ⊢; omega)
        have a3 : Eng.app T.api_Cell 5 48 v (srcS 5 (.slice (some ⟨H1.n, 0, none⟩) 1 2) H2) H2 = some (v3', H3) := a3
        have f3 : H3.f bt = .cells [.int .i64 n, kv, rv] T.api_Table true := by rw [s3.still.f hb fun h => h]; exact hf
        obtain ⟨k1, k2⟩ := l_found n kv rv kl rl bt H0 hk hr hf hb h8 h8' hkk t (i + 1) H3 v3' (o ++ [⟨ck, cu, ci, cs, cb⟩]) key (val.drop (enc ⟨ck, cu, ci, cs, cb⟩).length) hx' h1 (by simp; omega) (by simp; omega) s3
        rw [Int.natCast_add] at k1 k2
        show (Option.map _ (fl kl.length (i + 1) t key (val.drop (enc ⟨ck, cu, ci, cs, cb⟩).length)) = none → _) ∧ (∀ l x y, Option.map _ (fl kl.length (i + 1) t key (val.drop (enc ⟨ck, cu, ci, cs, cb⟩).length)) = some (l, x, y) → _)
        generalize ((enc ⟨ck, cu, ci, cs, cb⟩).length : Int) = eN at m2 hn0 sl
        generalize val.drop (enc ⟨ck, cu, ci, cs, cb⟩).length = dk at sl k1 k2 ⊢
        refine ⟨fun h3 => ?_, fun l x y h3 => ?_⟩
        · obtain ⟨H', s', e'⟩ := k1 (by cases hz : fl kl.length (i + 1) t key dk with | none => rfl | some q => rw [hz] at h3; cases h3)
          refine ⟨H', s', fun K => ?_⟩
          have := e' K
          rw [r_law_found_0]
          simp (disch := first | with_reducible rfl | assumption | omega | rfl | (simp only [go_sem]; first | done | omega)) only [go_sem, ↓reduceIte, reduceCtorEq, Nat.reduceEqDiff, Nat.reduceAdd, Nat.reduceSub, Nat.reduceMul, Nat.reduceDiv, Nat.reduceMod, Nat.reduceLeDiff, Nat.reduceLT, Nat.reduceBEq, Int.reduceEq, Int.reduceBEq, Int.reduceBNe, Int.reduceLT, Int.reduceLE, Int.reduceAdd, Int.reduceSub, Int.reduceNeg, Int.reduceToNat, Int.reducePow, Nat.reducePow, Int.reduceMul, Int.reduceDiv, ↓s_law_found_b0, f, lk, lr, hlt, hi', ↓enterK_eq m1, enterK_eq m1, ↓enterK_eq m2, enterK_eq m2, hH1, hn0, f1, hH2, a3, f3, hi2, sl]
          exact this
        · obtain ⟨⟨l', x', y'⟩, h4, h5⟩ := Option.map_eq_some_iff.1 h3
          cases h5
          obtain ⟨v', H', s', e'⟩ := k2 l' x y h4
          refine ⟨v', H', by simpa using s', fun K => ?_⟩
          have := e' K
          rw [r_law_found_0]
          simp (disch := first | with_reducible rfl | assumption | omega | rfl | (simp only [go_sem]; first | done | omega)) only [go_sem, ↓reduceIte, reduceCtorEq, Nat.reduceEqDiff, Nat.reduceAdd, Nat.reduceSub, Nat.reduceMul, Nat.reduceDiv, Nat.reduceMod, Nat.reduceLeDiff, Nat.reduceLT, Nat.reduceBEq, Int.reduceEq, Int.reduceBEq, Int.reduceBNe, Int.reduceLT, Int.reduceLE, Int.reduceAdd, Int.reduceSub, Int.reduceNeg, Int.reduceToNat, Int.reducePow, Nat.reducePow, Int.reduceMul, Int.reduceDiv, ↓s_law_found_b0, f, lk, lr, hlt, hi', ↓enterK_eq m1, enterK_eq m1, ↓enterK_eq m2, enterK_eq m2, hH1, hn0, f1, hH2, a3, f3, hi2, sl]
          exact this

end Go.Proofs.YtlmhioanjmhaiaaDoor

/-
  Chapter 40: found; it finds just what Read does.
  Conditions: none. By an AI agent.
-/
set_option maxRecDepth 10000
set_option linter.unusedSimpArgs false
set_option linter.unusedVariables false
namespace Go.Proofs.YtlmhioanjmhaiaaDoor
open Go Eng

/-- What found answers. -/
def foundR (n : Int) (kl rl : List Int) (key val : List UInt8) : Option (List Cl) :=
  match key with
  | [] => none
  | c :: kt => if key.length ≤ 24 ∧ val.length ≤ 40 ∧ (c.toNat : Int) = n then
      (match fl kl.length 0 (kl ++ rl) kt val with
       | some (l, [], []) => some l
       | _ => none)
    else none

theorem fl_A (nk : Nat) : ∀ (ks : List Int) (i : Nat) (key val : List UInt8) (l : List Cl) (x y : List UInt8), (∀ k ∈ ks, kindP k = true) → key.length ≤ 1000 → val.length ≤ 1000 → fl nk i ks key val = some (l, x, y) →
    l.length = ks.length ∧ are2 l ks = true ∧ (∀ c ∈ l, CellOk c) ∧ key = encs (l.take (nk - i)) ++ x ∧ val = encs (l.drop (nk - i)) ++ y
  | [], i, key, val, l, x, y, _, _, _, h => by
    cases h
    exact ⟨rfl, rfl, by simp, by simp [encs], by simp [encs]⟩
  | k :: ks, i, key, val, l, x, y, hk, h1, h2, h => by
    have hkk := hk k (by simp)
    rw [fl] at h
    split at h
    · rename_i hi
      cases hq : ltk k key with
      | none => rw [hq] at h; cases h
      | some c =>
        rw [hq] at h
        obtain ⟨⟨l', x', y'⟩, h3, h4⟩ := Option.map_eq_some_iff.1 h
        cases h4
        obtain ⟨a1, a2, a3⟩ := ltk_A hkk h1 hq
        obtain ⟨b1, b2, b3, b4, b5⟩ := fl_A nk ks (i + 1) _ val l' x y (fun k hk' => hk k (by simp [hk'])) (by simp; omega) h2 h3
        have e : nk - i = (nk - (i + 1)) + 1 := by omega
        refine ⟨by simp [b1], by show (properP c k && are2 l' ks) = true; rw [a2, b2]; rfl, ?_, ?_, ?_⟩
        · intro z hz
          rcases List.mem_cons.1 hz with rfl | hz
          · exact a1
          · exact b3 z hz
        · rw [e, List.take_succ_cons, encs, List.append_assoc, ← b4]; exact a3
        · rw [e, List.drop_succ_cons]; exact b5
    · rename_i hi
      cases hq : ltk k val with
      | none => rw [hq] at h; cases h
      | some c =>
        rw [hq] at h
        obtain ⟨⟨l', x', y'⟩, h3, h4⟩ := Option.map_eq_some_iff.1 h
        cases h4
        obtain ⟨a1, a2, a3⟩ := ltk_A hkk h2 hq
        obtain ⟨b1, b2, b3, b4, b5⟩ := fl_A nk ks (i + 1) key _ l' x y (fun k hk' => hk k (by simp [hk'])) h1 (by simp; omega) h3
        have e : nk - i = 0 := by omega
        have e' : nk - (i + 1) = 0 := by omega
        rw [e', List.take_zero] at b4
        rw [e', List.drop_zero] at b5
        refine ⟨by simp [b1], by show (properP c k && are2 l' ks) = true; rw [a2, b2]; rfl, ?_, ?_, ?_⟩
        · intro z hz
          rcases List.mem_cons.1 hz with rfl | hz
          · exact a1
          · exact b3 z hz
        · rw [e, List.take_zero]; exact b4
        · rw [e, List.drop_zero, encs, List.append_assoc, ← b5]; exact a3
theorem fl_B (nk : Nat) : ∀ (ks : List Int) (i : Nat) (l : List Cl) (x y : List UInt8), (∀ k ∈ ks, kindP k = true) → (∀ c ∈ l, CellOk c) → l.length = ks.length → are2 l ks = true →
    fl nk i ks (encs (l.take (nk - i)) ++ x) (encs (l.drop (nk - i)) ++ y) = some (l, x, y)
  | [], i, l, x, y, _, _, hl, _ => by
    have : l = [] := List.length_eq_zero_iff.1 hl
    subst this
    simp [fl, encs]
  | k :: ks, i, [], x, y, _, _, hl, _ => by simp at hl
  | k :: ks, i, c :: l, x, y, hk, hc, hl, ha => by
    have ha : properP c k = true ∧ are2 l ks = true := by
      have : (properP c k && are2 l ks) = true := ha
      simpa using this
    have ih := fl_B nk ks (i + 1) l x y (fun k hk' => hk k (by simp [hk'])) (fun z hz => hc z (by simp [hz])) (by simpa using hl) ha.2
    rw [fl]
    by_cases hi : i < nk
    · have e : nk - i = (nk - (i + 1)) + 1 := by omega
      rw [if_pos hi, e, List.take_succ_cons, List.drop_succ_cons, encs, List.append_assoc, ltk_B (hk k (by simp)) (hc c (by simp)) ha.1]
      simp only [List.drop_left' rfl, ih, Option.map_some]
    · have e : nk - i = 0 := by omega
      have e' : nk - (i + 1) = 0 := by omega
      rw [e', List.take_zero, List.drop_zero] at ih
      rw [if_neg hi, e, List.take_zero, List.drop_zero, show encs (c :: l) = enc c ++ encs l from rfl, List.append_assoc, ltk_B (hk k (by simp)) (hc c (by simp)) ha.1]
      simp only [List.drop_left' rfl, ih, Option.map_some]

theorem foundR_row {n : Int} {kl rl : List Int} {key val : List UInt8} {l : List Cl} (hv : validP n kl rl = true) (h1 : key.length ≤ 1000) (h2 : val.length ≤ 1000) (h : foundR n kl rl key val = some l) : rowR n kl rl l = (key, val, 0) ∧ ∀ c ∈ l, CellOk c := by
  obtain ⟨hk, hr, _⟩ := okk hv
  unfold foundR at h
  cases key with
  | nil => cases h
  | cons c kt =>
    simp only at h
    split at h
    · rename_i h3
      split at h
      · rename_i l' hf
        cases h
        obtain ⟨a1, a2, a3, a4, a5⟩ := fl_A kl.length (kl ++ rl) 0 kt val l [] [] (fun k hk' => by rcases List.mem_append.1 hk' with h | h; exact hk k h; exact hr k h) (by simp at h1; omega) h2 hf
        refine ⟨?_, a3⟩
        simp only [List.append_nil, Nat.sub_zero] at a4 a5
        have rok : rowOk n kl rl l = true := by unfold rowOk areP; rw [hv, a2, decide_eq_true a1]; rfl
        have ec : by8 n.toNat = c := by
          apply UInt8.toNat_inj.1
          have := c.toNat_lt
          rw [by8_nat (by omega)]
          omega
        have ek : keyB n kl l = c :: kt := by unfold keyB; rw [ec, ← a4]
        have ev : valB kl l = val := by unfold valB; rw [← a5]
        unfold rowR
        rw [if_pos rok, ek, ev, if_neg (by omega)]
      · cases h
    · cases h
theorem row_foundR {n : Int} {kl rl : List Int} {key val : List UInt8} {l : List Cl} (hc : ∀ c ∈ l, CellOk c) (h : rowR n kl rl l = (key, val, 0)) : foundR n kl rl key val = some l := by
  obtain ⟨h1, h2, h3, h4, h5⟩ := rowR_ok h
  unfold rowOk at h1
  simp only [Bool.and_eq_true] at h1
  obtain ⟨hv, ha⟩ := h1
  obtain ⟨hk, hr, _⟩ := okk hv
  have hvn := validP_n hv
  unfold areP at ha
  simp only [Bool.and_eq_true, decide_eq_true_eq] at ha
  have hf := fl_B kl.length (kl ++ rl) 0 l [] [] (fun k hk' => by rcases List.mem_append.1 hk' with h | h; exact hk k h; exact hr k h) hc ha.1 ha.2
  simp only [List.append_nil, Nat.sub_zero] at hf
  subst h2 h3
  unfold foundR keyB at *
  simp only
  rw [if_pos ⟨h4, h5, by rw [by8_nat (by omega)]; omega⟩]
  unfold valB
  rw [hf]

theorem read_found {n : Int} {kl rl : List Int} {key val : List UInt8} (hv : validP n kl rl = true) (h1 : key.length ≤ 1000) (h2 : val.length ≤ 1000) :
    readR n kl rl key val = match foundR n kl rl key val with | some l => (l, 0) | none => ([], 12) := by
  cases hf : foundR n kl rl key val with
  | some l =>
    obtain ⟨a1, a2⟩ := foundR_row hv h1 h2 hf
    exact readR_row a2 a1
  | none =>
    unfold readR
    rw [if_pos hv]
    cases key with
    | nil => rfl
    | cons c kt =>
      simp only
      cases hp : readP kl rl kt val with
      | none => rfl
      | some out =>
        simp only
        split
        · rename_i hr
          exfalso
          have hc : ∀ c ∈ out, CellOk c := by
            unfold readP at hp
            obtain ⟨a, ha, hb⟩ := Option.bind_eq_some_iff.1 hp
            obtain ⟨b, hb', rfl⟩ := Option.map_eq_some_iff.1 hb
            have ca := (takesP_ok kl kt a (by simp at h1; omega) ha).2
            have cb := (takesP_ok rl val b h2 hb').2
            intro z hz
            rcases List.mem_append.1 hz with h | h
            · exact ca z h
            · exact cb z h
          rw [row_foundR hc hr] at hf
          cases hf
        · rfl

set_option maxHeartbeats 1000000 in
theorem q_found (n : Int) (kv rv : Value) (kl rl : List Int) (key val : List UInt8) (H : AHeap) (hk : KR H kv kl) (hr : KR H rv rl) (hv : validP n kl rl = true) (h1 : key.length ≤ 1000) (h2 : val.length ≤ 1000) :
    (foundR n kl rl key val = none → ∃ v H', CC F.law_found [tbV n kv rv, .string (mk key), .string (mk val)] H = some (.tuple #[v, .bool false], H') ∧ Still H H') ∧
    (∀ l, foundR n kl rl key val = some l → ∃ v H', CC F.law_found [tbV n kv rv, .string (mk key), .string (mk val)] H = some (.tuple #[v, .bool true], H') ∧ SinceE ECl T.api_Cell H H' v l) := by
  obtain ⟨H1, hH1⟩ : ∃ H1, H.push (.cells [.int .i64 n, kv, rv] T.api_Table true) = H1 := ⟨_, rfl⟩
  have s1 : Still H H1 := by rw [← hH1]; exact (Fr.refl H).push _
  have n1 : H.n < H1.n := by rw [← hH1]; exact Nat.lt_succ_self _
  have f1 : H1.f H.n = .cells [.int .i64 n, kv, rv] T.api_Table true := by rw [← hH1]; exact push_f_eq rfl
  obtain ⟨hkk, hrk, hk1⟩ := okk hv
  obtain ⟨_, _, hk8, hr8⟩ := validP_n hv
  unfold foundR
  by_cases hA : 24 < (key.length : Int)
  · have bad : CC F.law_found [tbV n kv rv, .string (mk key), .string (mk val)] H = some (.tuple #[.slice none 0 0, .bool false], H) := by
      apply pure_of _ (d_law_found _ _ _ H) rfl
      rotate_left 2
      · simp (disch := first | with_reducible rfl | assumption | omega | rfl | (simp only [go_sem]; first | done | omega)) only [go_sem, ↓reduceIte, reduceCtorEq, Nat.reduceEqDiff, Nat.reduceAdd, Nat.reduceSub, Nat.reduceMul, Nat.reduceDiv, Nat.reduceMod, Nat.reduceLeDiff, Nat.reduceLT, Nat.reduceBEq, Int.reduceEq, Int.reduceBEq, Int.reduceBNe, Int.reduceLT, Int.reduceLE, Int.reduceAdd, Int.reduceSub, Int.reduceNeg, Int.reduceToNat, Int.reducePow, Nat.reducePow, Int.reduceMul, Int.reduceDiv, ↓s_law_found, hH1, bl_mk, hA]
        rfl
      · exact s1
    refine ⟨fun _ => ⟨_, _, bad, Fr.refl H⟩, fun l h => ?_⟩
    exfalso
    cases key with
    | nil => cases h
    | cons c kt => simp only at h; rw [if_neg (by omega)] at h; cases h
  by_cases hB : 40 < (val.length : Int)
  · have bad : CC F.law_found [tbV n kv rv, .string (mk key), .string (mk val)] H = some (.tuple #[.slice none 0 0, .bool false], H) := by
      apply pure_of _ (d_law_found _ _ _ H) rfl
      rotate_left 2
      · simp (disch := first | with_reducible rfl | assumption | omega | rfl | (simp only [go_sem]; first | done | omega)) only [go_sem, ↓reduceIte, reduceCtorEq, Nat.reduceEqDiff, Nat.reduceAdd, Nat.reduceSub, Nat.reduceMul, Nat.reduceDiv, Nat.reduceMod, Nat.reduceLeDiff, Nat.reduceLT, Nat.reduceBEq, Int.reduceEq, Int.reduceBEq, Int.reduceBNe, Int.reduceLT, Int.reduceLE, Int.reduceAdd, Int.reduceSub, Int.reduceNeg, Int.reduceToNat, Int.reducePow, Nat.reducePow, Int.reduceMul, Int.reduceDiv, ↓s_law_found, hH1, bl_mk, hA, hB]
        rfl
      · exact s1
    refine ⟨fun _ => ⟨_, _, bad, Fr.refl H⟩, fun l h => ?_⟩
    exfalso
    cases key with
    | nil => cases h
    | cons c kt => simp only at h; rw [if_neg (by omega)] at h; cases h
  cases key with
  | nil =>
    refine ⟨fun _ => ⟨.slice none 0 0, H, ?_, Fr.refl H⟩, fun l h => (by cases h)⟩
    apply pure_of _ (d_law_found _ _ _ H) rfl
    rotate_left 2
    · simp (disch := first | with_reducible rfl | assumption | omega | rfl | (simp only [go_sem]; first | done | omega)) only [go_sem, ↓reduceIte, reduceCtorEq, Nat.reduceEqDiff, Nat.reduceAdd, Nat.reduceSub, Nat.reduceMul, Nat.reduceDiv, Nat.reduceMod, Nat.reduceLeDiff, Nat.reduceLT, Nat.reduceBEq, Int.reduceEq, Int.reduceBEq, Int.reduceBNe, Int.reduceLT, Int.reduceLE, Int.reduceAdd, Int.reduceSub, Int.reduceNeg, Int.reduceToNat, Int.reducePow, Nat.reducePow, Int.reduceMul, Int.reduceDiv, ↓s_law_found, hH1, bl_mk, hB]
      rfl
    · exact s1
  | cons c kt =>
  simp only
  have a1 := slT_lo (s := mk (c :: kt)) (q := .i64) (i := 1) (by rw [bl_mk]; simp)
  rw [bl_mk] at a1
  have a1 : slT (.string (mk (c :: kt))) (some (.int .i64 1)) none = some (.string (mk kt)) := a1
  have ix := xix (s := mk (c :: kt)) (i := 0) (by rw [bl_mk]; simp)
  have ix : xindex Tryd.prog T.string (.string (mk (c :: kt))) (.int .i64 0) = some (.int .u8 (c.toNat : Int)) := ix
  have hc := c.toNat_lt
  have cv : ∀ H, xconv Tryd.prog T.uint8 T.int (.int .u8 (c.toNat : Int)) H = some (.int .i64 (c.toNat : Int), H) := fun H => by
    rw [x_uint8_int, wrap_i64 ⟨by omega, by omega⟩]
  have hne : ¬ (((c :: kt).length : Int) = 0) := by simp; omega
  by_cases hC : (c.toNat : Int) = n
  · rw [if_pos ⟨by omega, by omega, hC⟩]
    have hC' : ((c.toNat : Int) = n) = True := by simp [hC]
    have hkt : kt.length ≤ 1000 := by simp at h1; omega
    obtain ⟨p1, p2⟩ := l_found n kv rv kl rl H.n H1 (hk.still s1) (hr.still s1) f1 n1 hk8 hr8 (fun k hk' => by rcases List.mem_append.1 hk' with h | h; exact hkk k h; exact hrk k h) (kl ++ rl) 0 H1 (.slice none 0 0) [] kt val rfl hkt h2 (by simp) SinceE.nil
    obtain ⟨key, hkey⟩ : ∃ key, c :: kt = key := ⟨_, rfl⟩
    rw [hkey] at a1 ix hA hne ⊢
    cases hf : fl kl.length 0 (kl ++ rl) kt val with
    | none =>
      obtain ⟨H2, s2, e2⟩ := p1 hf
      have e2 : ∀ K : K, l_law_found_0 (.string (mk kt)) (.string (mk val)) (.pointer (some ⟨H.n, 0, none⟩)) (.slice none 0 0) (.int .i64 0) H1 (blkK [1, 2, 8] 0 K) = K .ret [(6, .slice none 0 0), (7, .bool false)] H2 := e2
      refine ⟨fun _ => ⟨.slice none 0 0, H, ?_, Fr.refl H⟩, fun l h => (by cases h)⟩
      apply pure_of _ (d_law_found _ _ _ H) rfl
      rotate_left 2
      · simp (disch := first | with_reducible rfl | assumption | omega | rfl | (simp only [go_sem]; first | done | omega)) only [go_sem, ↓reduceIte, reduceCtorEq, Nat.reduceEqDiff, Nat.reduceAdd, Nat.reduceSub, Nat.reduceMul, Nat.reduceDiv, Nat.reduceMod, Nat.reduceLeDiff, Nat.reduceLT, Nat.reduceBEq, Int.reduceEq, Int.reduceBEq, Int.reduceBNe, Int.reduceLT, Int.reduceLE, Int.reduceAdd, Int.reduceSub, Int.reduceNeg, Int.reduceToNat, Int.reducePow, Nat.reducePow, Int.reduceMul, Int.reduceDiv, ↓s_law_found, hH1, bl_mk, hA, hB, hne, ix, ↓cv, cv, f1, hC', a1, e2]
        rfl
      · exact s1.trans s2
    | some q =>
      obtain ⟨l, x, y⟩ := q
      obtain ⟨v, H2, s2, e2⟩ := p2 l x y hf
      rw [List.nil_append] at s2
      have e2 : ∀ K : K, l_law_found_0 (.string (mk kt)) (.string (mk val)) (.pointer (some ⟨H.n, 0, none⟩)) (.slice none 0 0) (.int .i64 0) H1 (blkK [1, 2, 8] 0 K) = K .normal [(1, .string (mk x)), (2, .string (mk y)), (8, v)] H2 := e2
      have st := s1.trans s2.still
      obtain ⟨a1', _⟩ := fl_A kl.length (kl ++ rl) 0 kt val l x y (fun k hk' => by rcases List.mem_append.1 hk' with h | h; exact hkk k h; exact hrk k h) hkt h2 hf
      have hg : ∀ b, gr 9 (.tuple #[v, .bool b]) = false := fun b => by
        rcases s2.own with ⟨e, _⟩ | ⟨_, a, h, _⟩ | ⟨b', o', c', xs', h, _⟩
        · rw [e] at a1'; simp at a1'; omega
        · rw [h]; rfl
        · rw [h]; rfl
      by_cases hx : x = []
      · have hx' : ((x.length : Int) = 0) = True := by simp [hx]
        by_cases hy : y = []
        · have hy' : ((y.length : Int) = 0) = True := by simp [hy]
          rw [hx, hy]
          refine ⟨fun h => (by cases h), fun l' h => ?_⟩
          cases h
          refine ⟨v, H2, (d_law_found _ _ _ H ?_).trans (congrArg some (tidy_mem (hg true))), st, s2.own, fun b h => Nat.le_trans s1.n (s2.new b h)⟩
          simp (disch := first | with_reducible rfl | assumption | omega | rfl | (simp only [go_sem]; first | done | omega)) only [go_sem, ↓reduceIte, reduceCtorEq, Nat.reduceEqDiff, Nat.reduceAdd, Nat.reduceSub, Nat.reduceMul, Nat.reduceDiv, Nat.reduceMod, Nat.reduceLeDiff, Nat.reduceLT, Nat.reduceBEq, Int.reduceEq, Int.reduceBEq, Int.reduceBNe, Int.reduceLT, Int.reduceLE, Int.reduceAdd, Int.reduceSub, Int.reduceNeg, Int.reduceToNat, Int.reducePow, Nat.reducePow, Int.reduceMul, Int.reduceDiv, ↓s_law_found, hH1, bl_mk, hA, hB, hne, ix, ↓cv, cv, f1, hC', a1, e2, hx', hy']
          try rfl
        · have hy' : ¬ ((y.length : Int) = 0) := fun e => hy (List.length_eq_zero_iff.1 (by omega))
          refine ⟨fun _ => ⟨v, H2, (d_law_found _ _ _ H ?_).trans (congrArg some (tidy_mem (hg false))), st⟩, fun l' h => ?_⟩
          · simp (disch := first | with_reducible rfl | assumption | omega | rfl | (simp only [go_sem]; first | done | omega)) only [go_sem, ↓reduceIte, reduceCtorEq, Nat.reduceEqDiff, Nat.reduceAdd, Nat.reduceSub, Nat.reduceMul, Nat.reduceDiv, Nat.reduceMod, Nat.reduceLeDiff, Nat.reduceLT, Nat.reduceBEq, Int.reduceEq, Int.reduceBEq, Int.reduceBNe, Int.reduceLT, Int.reduceLE, Int.reduceAdd, Int.reduceSub, Int.reduceNeg, Int.reduceToNat, Int.reducePow, Nat.reducePow, Int.reduceMul, Int.reduceDiv, ↓s_law_found, hH1, bl_mk, hA, hB, hne, ix, ↓cv, cv, f1, hC', a1, e2, hx', hy']
            try rfl
          · exfalso
            rw [hx] at h
            cases y with
            | nil => exact hy rfl
            | cons a b => cases h
      · have hx' : ¬ ((x.length : Int) = 0) := fun e => hx (List.length_eq_zero_iff.1 (by omega))
        refine ⟨fun _ => ⟨v, H2, (d_law_found _ _ _ H ?_).trans (congrArg some (tidy_mem (hg false))), st⟩, fun l' h => ?_⟩
        · simp (disch := first | with_reducible rfl | assumption | omega | rfl | (simp only [go_sem]; first | done | omega)) only [go_sem, ↓reduceIte, reduceCtorEq, Nat.reduceEqDiff, Nat.reduceAdd, Nat.reduceSub, Nat.reduceMul, Nat.reduceDiv, Nat.reduceMod, Nat.reduceLeDiff, Nat.reduceLT, Nat.reduceBEq, Int.reduceEq, Int.reduceBEq, Int.reduceBNe, Int.reduceLT, Int.reduceLE, Int.reduceAdd, Int.reduceSub, Int.reduceNeg, Int.reduceToNat, Int.reducePow, Nat.reducePow, Int.reduceMul, Int.reduceDiv, ↓s_law_found, hH1, bl_mk, hA, hB, hne, ix, ↓cv, cv, f1, hC', a1, e2, hx']
          try rfl
        · exfalso
          cases x with
          | nil => exact hx rfl
          | cons a b => cases h
  · rw [if_neg (fun h => hC h.2.2)]
    refine ⟨fun _ => ⟨.slice none 0 0, H, ?_, Fr.refl H⟩, fun l h => (by cases h)⟩
    obtain ⟨key, hkey⟩ : ∃ key, c :: kt = key := ⟨_, rfl⟩
    rw [hkey] at a1 ix hA hne ⊢
    apply pure_of _ (d_law_found _ _ _ H) rfl
    rotate_left 2
    · simp (disch := first | with_reducible rfl | assumption | omega | rfl | (simp only [go_sem]; first | done | omega)) only [go_sem, ↓reduceIte, reduceCtorEq, Nat.reduceEqDiff, Nat.reduceAdd, Nat.reduceSub, Nat.reduceMul, Nat.reduceDiv, Nat.reduceMod, Nat.reduceLeDiff, Nat.reduceLT, Nat.reduceBEq, Int.reduceEq, Int.reduceBEq, Int.reduceBNe, Int.reduceLT, Int.reduceLE, Int.reduceAdd, Int.reduceSub, Int.reduceNeg, Int.reduceToNat, Int.reducePow, Nat.reducePow, Int.reduceMul, Int.reduceDiv, ↓s_law_found, hH1, bl_mk, hA, hB, hne, ix, ↓cv, cv, f1, hC]
      rfl
    · exact s1

end Go.Proofs.YtlmhioanjmhaiaaDoor
