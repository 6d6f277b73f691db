/-
  14 texts in one (merge.py): Pb Pc Pd Pe Pf Pg Ph Pi Na ShRowsWrites DsRowsWrites Pj Pk LawRowsWrites.
  Conditions: none. By an AI agent.
-/
import Derived.Test.YtlmhioanjmhaiaaDoorLawRowsWritesQ1
import Derived.Test.YtlmhioanjmhaiaaDoorChecked
import Derived.KernelRfl
import Derived.Test.YtlmhioanjmhaiaaDoorRows
import Derived.Test.YtlmhioanjmhaiaaDoorCards
import Derived.Test.YtlmhioanjmhaiaaDoorTie
import Derived.WalkKit
import Derived.ProofKit
import Derived.OpenShut
import Derived.ShutString
import Derived.ChangeOld
import Derived.Below
import Derived.SizedLaws
import Derived.ChangeArms
import Derived.Carry
import Derived.Lay
import Derived.PinnedBridge
import Derived.LaidOnce
import Derived.SevenTiedAt
import Derived.HandedShaped
import Derived.Shelf.Vars

/-
  Chapter 40: number.
  Conditions: none. By an AI agent.
-/
set_option maxRecDepth 10000
set_option linter.unusedSimpArgs false
set_option linter.unusedVariables false
namespace Go.Proofs.YtlmhioanjmhaiaaDoor
open Go Eng

/-- The number that bytes mean, the highest first. -/
def numF (a : Nat) : List UInt8 → Nat
  | [] => a
  | c :: l => numF (a * 256 + c.toNat) l
def invL (i : Bool) (l : List UInt8) : List UInt8 := if i then l.map inv8 else l

theorem slT_lo {s : ByteArray} {q : IntKind} {i : Nat} (h : i ≤ (bl s).length) : slT (.string s) (some (.int q (i : Int))) none = some (.string (mk ((bl s).drop i))) := by
  show ((highOf (bl s).length (bl s).length none).bind fun h => (lowOf h (some (.int q (i : Int)))).map fun l => Value.string (mk (((bl s).take h).drop l))) = _
  show ((lowOf (bl s).length (some (.int q (i : Int)))).map fun l => Value.string (mk (((bl s).take (bl s).length).drop l))) = _
  rw [low_nat h, List.take_length]
  rfl

theorem shl_num {a : Nat} (h : a * 256 < 18446744073709551616) : ∀ ox oy, xbin Tryd.prog .shl T.uint64 ox oy (.int .u64 (a : Int)) (.int .u64 8) = some (.int .u64 ((a * 256 : Nat) : Int)) := fun ox oy => by
  have e := shlP (P := Tryd.prog) (t := T.uint64) (ox := ox) (oy := oy) (q := .u64) (q' := .u64) (a := (a : Int)) (b := 8) (by decide)
  rw [e, show ((a : Int) * 2 ^ (8 : Int).toNat) = ((a * 256 : Nat) : Int) by rw [Int.natCast_mul]; rfl, wrap_u64 ⟨by omega, by omega⟩]
theorem or_num {a c : Nat} (hc : c < 256) (h : a * 256 + c < 18446744073709551616) : ∀ ox oy, xbin Tryd.prog .or T.uint64 ox oy (.int .u64 ((a * 256 : Nat) : Int)) (.int .u64 (c : Int)) = some (.int .u64 ((a * 256 + c : Nat) : Int)) := fun ox oy => by
  have q1 : a * 256 < 2 ^ IntKind.u64.bits := by show _ < 18446744073709551616; omega
  have q2 : c < 2 ^ IntKind.u64.bits := by show _ < 18446744073709551616; omega
  rw [orU q1 q2, show a * 256 ||| c = a * 256 + c from or_add (k := 8) hc, wrap_u64 ⟨by omega, by omega⟩]
theorem x_u8_u64 (c : UInt8) (H : AHeap) : xconv Tryd.prog T.uint8 T.uint64 (.int .u8 (c.toNat : Int)) H = some (.int .u64 (c.toNat : Int), H) := by
  have h := c.toNat_lt
  refine (xconv_int (a := .u8) (b := .u64) (s := T.uint8) (t := T.uint64) Tryd.underlying5 Tryd.underlying42).trans ?_
  rw [wrap_u64 ⟨by omega, by omega⟩]

theorem l_number (s x : Value) (inv : Bool) (l : List UInt8) (v : Value) (H : AHeap) (hr : Rd EB H v l) (h8 : l.length ≤ 8) : ∀ (t : List UInt8) (i a : Nat), l.drop i = t → a < 256 ^ i →
    ∀ K : K, l_rows_number_0 s x (.bool inv) (.int .u64 (a : Int)) v (.int .i64 (l.length : Int)) (.int .i64 (i : Int)) H (blkK [0, 1, 9] 0 K) = K .normal [(0, s), (1, x), (9, .int .u64 ((numF a (invL inv t) : Nat) : Int))] H
  | [], i, a, hx, ha => fun K => by
    have h : l.length ≤ i := List.drop_eq_nil_iff.1 hx
    have hlt : ¬ (i : Int) < (l.length : Int) := by omega
    have e : numF a (invL inv []) = a := by cases inv <;> rfl
    rw [e, r_rows_number_0]
    simp (disch := first | with_reducible rfl | assumption | omega | rfl | (simp only [go_sem]; first | done | omega)) only [go_sem, ↓reduceIte, reduceCtorEq, Nat.reduceEqDiff, Nat.reduceAdd, Nat.reduceSub, Nat.reduceMul, Nat.reduceDiv, Nat.reduceMod, Nat.reduceLeDiff, Nat.reduceLT, Nat.reduceBEq, Int.reduceEq, Int.reduceBEq, Int.reduceBNe, Int.reduceLT, Int.reduceLE, Int.reduceAdd, Int.reduceSub, Int.reduceNeg, Int.reduceToNat, Int.reducePow, Nat.reducePow, Int.reduceMul, Int.reduceDiv, ↓s_rows_number_b0, hlt]
  | c :: t, i, a, hx, ha => fun K => by
    obtain ⟨h, hxa, hx'⟩ := drop_cons hx
    have hlt : (i : Int) < (l.length : Int) := by omega
    obtain ⟨b1, o1, ix, cl, _⟩ := hr.byte h
    rw [hxa] at cl
    have hp : 256 ^ (i + 1) ≤ 256 ^ 8 := Nat.pow_le_pow_right (by decide) (by omega)
    have hp8 : (256 : Nat) ^ 8 = 18446744073709551616 := by decide
    have hps : (256 : Nat) ^ (i + 1) = 256 ^ i * 256 := Nat.pow_succ ..
    obtain ⟨d, hd⟩ : ∃ d : UInt8, (if inv then inv8 c else c) = d := ⟨_, rfl⟩
    have hdl := d.toNat_lt
    have e : numF a (invL inv (c :: t)) = numF (a * 256 + d.toNat) (invL inv t) := by cases inv <;> (rw [← hd]; rfl)
    have sh := shl_num (a := a) (by omega)
    have orr := or_num (a := a) (c := d.toNat) (by omega) (by omega)
    have ih := l_number s x inv l v H hr h8 t (i + 1) (a * 256 + d.toNat) hx' (by omega) K
    rw [Int.natCast_add] at ih
    rw [e, r_rows_number_0]
    cases inv with
    | false =>
      have hd : c = d := hd
      subst hd
      simp (disch := first | with_reducible rfl | assumption | omega | rfl | (simp only [go_sem]; first | done | omega)) only [go_sem, ↓reduceIte, reduceCtorEq, Nat.reduceEqDiff, Nat.reduceAdd, Nat.reduceSub, Nat.reduceMul, Nat.reduceDiv, Nat.reduceMod, Nat.reduceLeDiff, Nat.reduceLT, Nat.reduceBEq, Int.reduceEq, Int.reduceBEq, Int.reduceBNe, Int.reduceLT, Int.reduceLE, Int.reduceAdd, Int.reduceSub, Int.reduceNeg, Int.reduceToNat, Int.reducePow, Nat.reducePow, Int.reduceMul, Int.reduceDiv, ↓s_rows_number_b0, hlt, ix, cl, sh, x_u8_u64, orr]
      exact ih
    | true =>
      have hd : inv8 c = d := hd
      have sub1 : ∀ ox oy, xbin Tryd.prog .sub T.uint8 ox oy (.int .u8 255) (.int .u8 (c.toNat : Int)) = some (.int .u8 (d.toNat : Int)) := fun ox oy => by rw [xbin_sub, wrapU8, ← hd, inv8_nat]
      simp (disch := first | with_reducible rfl | assumption | omega | rfl | (simp only [go_sem]; first | done | omega)) only [go_sem, ↓reduceIte, reduceCtorEq, Nat.reduceEqDiff, Nat.reduceAdd, Nat.reduceSub, Nat.reduceMul, Nat.reduceDiv, Nat.reduceMod, Nat.reduceLeDiff, Nat.reduceLT, Nat.reduceBEq, Int.reduceEq, Int.reduceBEq, Int.reduceBNe, Int.reduceLT, Int.reduceLE, Int.reduceAdd, Int.reduceSub, Int.reduceNeg, Int.reduceToNat, Int.reducePow, Nat.reducePow, Int.reduceMul, Int.reduceDiv, ↓s_rows_number_b0, hlt, ix, cl, sub1, sh, x_u8_u64, orr]
      exact ih

/-- What number answers. -/
def numR (s : List UInt8) (n : Nat) (inv : Bool) : Option (Nat × List UInt8) := if 8 < n ∨ s.length < n then none else some (numF 0 (invL inv (s.take n)), s.drop n)
def numV : Option (Nat × List UInt8) → Value
  | none => .tuple #[.int .u64 0, .string (mk []), .bool false]
  | some (n, r) => .tuple #[.int .u64 (n : Int), .string (mk r), .bool true]

theorem q_number (s : List UInt8) (n : Nat) (inv : Bool) (H : AHeap) : CC F.rows_number [.string (mk s), .int .i64 (n : Int), .bool inv] H = some (numV (numR s n inv), H) := by
  unfold numR
  by_cases h8 : 8 < (n : Int)
  · rw [if_pos (Or.inl (by omega))]
    apply pure_of _ (d_rows_number _ _ _ H) rfl
    rotate_left 2
    · simp (disch := first | with_reducible rfl | assumption | omega | rfl | (simp only [go_sem]; first | done | omega)) only [go_sem, ↓reduceIte, reduceCtorEq, Nat.reduceEqDiff, Nat.reduceAdd, Nat.reduceSub, Nat.reduceMul, Nat.reduceDiv, Nat.reduceMod, Nat.reduceLeDiff, Nat.reduceLT, Nat.reduceBEq, Int.reduceEq, Int.reduceBEq, Int.reduceBNe, Int.reduceLT, Int.reduceLE, Int.reduceAdd, Int.reduceSub, Int.reduceNeg, Int.reduceToNat, Int.reducePow, Nat.reducePow, Int.reduceMul, Int.reduceDiv, ↓s_rows_number, h8]
      rfl
    · (repeat (first | exact Fr.refl _ | refine Fr.push ?_ _ | refine Fr.set ?_ _ _ (by intro h; first | omega | (simp only [go_sem] at h; omega))))
  by_cases hl : (s.length : Int) < (n : Int)
  · rw [if_pos (Or.inr (by omega))]
    apply pure_of _ (d_rows_number _ _ _ H) rfl
    rotate_left 2
    · simp (disch := first | with_reducible rfl | assumption | omega | rfl | (simp only [go_sem]; first | done | omega)) only [go_sem, ↓reduceIte, reduceCtorEq, Nat.reduceEqDiff, Nat.reduceAdd, Nat.reduceSub, Nat.reduceMul, Nat.reduceDiv, Nat.reduceMod, Nat.reduceLeDiff, Nat.reduceLT, Nat.reduceBEq, Int.reduceEq, Int.reduceBEq, Int.reduceBNe, Int.reduceLT, Int.reduceLE, Int.reduceAdd, Int.reduceSub, Int.reduceNeg, Int.reduceToNat, Int.reducePow, Nat.reducePow, Int.reduceMul, Int.reduceDiv, ↓s_rows_number, h8, bl_mk, hl]
      rfl
    · (repeat (first | exact Fr.refl _ | refine Fr.push ?_ _ | refine Fr.set ?_ _ _ (by intro h; first | omega | (simp only [go_sem] at h; omega))))
  rw [if_neg (show ¬ (8 < n ∨ s.length < n) by omega)]
  have a1 := slT_hi (s := mk s) (q := .i64) (j := n) (by rw [bl_mk]; omega)
  have a2 := slT_lo (s := mk s) (q := .i64) (i := n) (by rw [bl_mk]; omega)
  rw [bl_mk] at a1 a2
  have cv := x_sb (s.take n) H
  obtain ⟨H1, hH1⟩ : ∃ H1, H.push (.cells (EB.cells (s.take n)) T.uint8 true) = H1 := ⟨_, rfl⟩
  have s1 : Still H H1 := by rw [← hH1]; exact (Fr.refl H).push _
  have f1 : H1.f H.n = .cells (EB.cells (s.take n)) T.uint8 true := by rw [← hH1]; exact push_f_eq rfl
  rw [hH1] at cv
  have hlen : (s.take n).length = n := by simp; omega
  have ow : Own EB H1 T.uint8 (.slice (some ⟨H.n, 0, none⟩) (s.take n).length (2 * (s.take n).length + 1)) (s.take n) :=
    .inr (.inr ⟨H.n, 0, (s.take n).length, EB.cells (s.take n), rfl, Nat.le_refl _, by rw [← hH1]; exact Nat.lt_succ_self _, f1, by rw [EB_cells]; simp [EB], by
      rw [List.drop_zero, List.take_of_length_le (by rw [EB_cells]; simp [EB])]⟩)
  have lo := l_number (.string (mk s)) (.int .i64 (n : Int)) inv (s.take n) _ H1 ow.rd (by omega) (s.take n) 0 0 rfl (by decide)
  have lv := ow.rd.lenS
  generalize Value.slice (some ⟨H.n, 0, none⟩) (s.take n).length (2 * (s.take n).length + 1) = v at cv lo lv
  rw [hlen] at lo lv
  have lo : ∀ K : K, l_rows_number_0 (.string (mk s)) (.int .i64 (n : Int)) (.bool inv) (.int .u64 0) v (.int .i64 (n : Int)) (.int .i64 0) H1 (blkK [0, 1, 9] 0 K) = K .normal [(0, .string (mk s)), (1, .int .i64 (n : Int)), (9, .int .u64 ((numF 0 (invL inv (s.take n)) : Nat) : Int))] H1 := lo
  apply pure_of _ (d_rows_number _ _ _ H) rfl
  rotate_left 2
  · simp (disch := first | with_reducible rfl | assumption | omega | rfl | (simp only [go_sem]; first | done | omega)) only [go_sem, ↓reduceIte, reduceCtorEq, Nat.reduceEqDiff, Nat.reduceAdd, Nat.reduceSub, Nat.reduceMul, Nat.reduceDiv, Nat.reduceMod, Nat.reduceLeDiff, Nat.reduceLT, Nat.reduceBEq, Int.reduceEq, Int.reduceBEq, Int.reduceBNe, Int.reduceLT, Int.reduceLE, Int.reduceAdd, Int.reduceSub, Int.reduceNeg, Int.reduceToNat, Int.reducePow, Nat.reducePow, Int.reduceMul, Int.reduceDiv, ↓s_rows_number, h8, bl_mk, hl, a1, cv, lv, lo, a2]
    rfl
  · exact s1

end Go.Proofs.YtlmhioanjmhaiaaDoor

/-
  Chapter 40: the end of a text, and its zero bytes.
  Conditions: none. By an AI agent.
-/
set_option maxRecDepth 10000
set_option linter.unusedSimpArgs false
set_option linter.unusedVariables false
namespace Go.Proofs.YtlmhioanjmhaiaaDoor
open Go Eng

theorem q_Index (s : ByteArray) (H : AHeap) (hs : (bl s).length ≤ 1000000) : CC F.strings_Index [.string s, .string (mk [0, 1])] H = some (.int .i64 (Lib.index (bl s) [0, 1]), H) := by
  refine D_prim (show prims1 F.strings_Index = some indexP by kernel_rfl) ?_
  have h1 : s.size < 4294967281 := by
    have e : s.size = (bl s).length := by cases s; rfl
    omega
  show (if s.size < 4294967281 then some (Value.int .i64 (Lib.index s.data.toList (mk [0, 1]).data.toList), H) else none) = _
  rw [if_pos h1]
  rfl

theorem q_ReplaceAll2 (s : ByteArray) (H : AHeap) (hs : (bl s).length ≤ 1000000) : CC F.strings_ReplaceAll [.string s, .string (mk [0, 255]), .string (mk [0])] H = some (.string (mk (Lib.replaceAll (bl s) [0, 255] [0])), H) := by
  refine D_prim (show prims1 F.strings_ReplaceAll = some replP by kernel_rfl) ?_
  have h1 : s.size < 4294967281 ∧ 1 ≤ (mk [0, 255]).size ∧ (mk [0]).size ≤ 100 := by
    have e : s.size = (bl s).length := by cases s; rfl
    exact ⟨by omega, by decide, by decide⟩
  show (if s.size < 4294967281 ∧ 1 ≤ (mk [0, 255]).size ∧ (mk [0]).size ≤ 100 then some (Value.string ⟨(Lib.replaceAll s.data.toList (mk [0, 255]).data.toList (mk [0]).data.toList).toArray⟩, H) else none) = _
  rw [if_pos h1]
  rfl

end Go.Proofs.YtlmhioanjmhaiaaDoor

/-
  Chapter 40: take.
  Conditions: none. By an AI agent.
-/
set_option maxRecDepth 10000
set_option linter.unusedSimpArgs false
set_option linter.unusedVariables false
namespace Go.Proofs.YtlmhioanjmhaiaaDoor
open Go Eng

/-- What take answers for a kind of numbers. -/
def tkU : Option (Nat × List UInt8) → Cl × List UInt8 × Bool
  | none => (⟨1, 0, 0, mk [], false⟩, [], false)
  | some (n, r) => (⟨1, n, 0, mk [], false⟩, r, true)
def tkV (x : Cl × List UInt8 × Bool) : Value := .tuple #[.agg ⟨x.1.l⟩, .string (mk x.2.1), .bool x.2.2]

theorem xload_cell (a : Value) (H : AHeap) : xload Tryd.prog T.api_Cell a H = ldN 5 H a := by
  have h1 : row? Tryd.prog T.api_Cell = some true := by kernel_rfl
  have h2 : Tryd.prog.cellsOf T.api_Cell = 5 := by kernel_rfl
  unfold xload
  rw [h1, h2]

theorem q_take_nil (k : Int) (H : AHeap) : CC F.rows_take [.string (mk []), .int .i64 k] H = some (tkV (⟨k, 0, 0, mk [], false⟩, [], false), H) := by
  obtain ⟨H1, hH1⟩ : ∃ H1, H.push (.cells [.int .i64 0, .int .u64 0, .int .i64 0, .string (mk []), .bool false] T.api_Cell true) = H1 := ⟨_, rfl⟩
  have s1 : Still H H1 := by rw [← hH1]; exact (Fr.refl H).push _
  have n1 : H1.n = H.n + 1 := by rw [← hH1]; rfl
  have f1 : H1.f H.n = .cells [.int .i64 0, .int .u64 0, .int .i64 0, .string (mk []), .bool false] T.api_Cell true := by rw [← hH1]; exact push_f_eq rfl
  obtain ⟨H2, hH2⟩ : ∃ H2, (H1.push (.cells [.int .i64 0, .int .u64 0, .int .i64 0, .string (mk []), .bool false] T.api_Cell true)).set H1.n (.cells [.int .i64 k, .int .u64 0, .int .i64 0, .string (mk []), .bool false] T.api_Cell true) = H2 := ⟨_, rfl⟩
  have s2 : Still H1 H2 := by rw [← hH2]; exact Fr.set ((Fr.refl H1).push _) _ _ (fun h => by omega)
  have f2 : H2.f H1.n = .cells [.int .i64 k, .int .u64 0, .int .i64 0, .string (mk []), .bool false] T.api_Cell true := by rw [← hH2]; exact set_f_eq
  have g2 : H2.f H.n = .cells [.int .i64 0, .int .u64 0, .int .i64 0, .string (mk []), .bool false] T.api_Cell true := by rw [s2.f (by omega) fun h => h]; exact f1
  obtain ⟨H3, hH3⟩ : ∃ H3, H2.set H.n (.cells [.int .i64 k, .int .u64 0, .int .i64 0, .string (mk []), .bool false] T.api_Cell true) = H3 := ⟨_, rfl⟩
  have s3 : Still H H3 := by rw [← hH3]; exact Fr.set (s1.trans s2) _ _ (fun h => by omega)
  have f3 : H3.f H.n = .cells [.int .i64 k, .int .u64 0, .int .i64 0, .string (mk []), .bool false] T.api_Cell true := by rw [← hH3]; exact set_f_eq
  apply pure_of _ (d_rows_take _ _ H) rfl
  rotate_left 2
  · simp (disch := first | with_reducible rfl | assumption | omega | rfl | (simp only [go_sem]; first | done | omega)) only [go_sem, ↓reduceIte, reduceCtorEq, Nat.reduceEqDiff, Nat.reduceAdd, Nat.reduceSub, Nat.reduceMul, Nat.reduceDiv, Nat.reduceMod, Nat.reduceLeDiff, Nat.reduceLT, Nat.reduceBEq, Int.reduceEq, Int.reduceBEq, Int.reduceBNe, Int.reduceLT, Int.reduceLE, Int.reduceAdd, Int.reduceSub, Int.reduceNeg, Int.reduceToNat, Int.reducePow, Nat.reducePow, Int.reduceMul, Int.reduceDiv, ↓s_rows_take, hH1, hH2, f2, g2, hH3, f3, xload_cell]
    rfl
  · exact s3

theorem q_take_bool (c : UInt8) (s : List UInt8) (H : AHeap) : CC F.rows_take [.string (mk (c :: s)), .int .i64 4] H = some (tkV (⟨4, 0, 0, mk [], decide ((c.toNat : Int) = 1)⟩, s, true), H) := by
  obtain ⟨H1, hH1⟩ : ∃ H1, H.push (.cells [.int .i64 0, .int .u64 0, .int .i64 0, .string (mk []), .bool false] T.api_Cell true) = H1 := ⟨_, rfl⟩
  have s1 : Still H H1 := by rw [← hH1]; exact (Fr.refl H).push _
  have n1 : H1.n = H.n + 1 := by rw [← hH1]; rfl
  have f1 : H1.f H.n = .cells [.int .i64 0, .int .u64 0, .int .i64 0, .string (mk []), .bool false] T.api_Cell true := by rw [← hH1]; exact push_f_eq rfl
  obtain ⟨H2, hH2⟩ : ∃ H2, (H1.push (.cells [.int .i64 0, .int .u64 0, .int .i64 0, .string (mk []), .bool false] T.api_Cell true)).set H1.n (.cells [.int .i64 4, .int .u64 0, .int .i64 0, .string (mk []), .bool false] T.api_Cell true) = H2 := ⟨_, rfl⟩
  have s2 : Still H1 H2 := by rw [← hH2]; exact Fr.set ((Fr.refl H1).push _) _ _ (fun h => by omega)
  have f2 : H2.f H1.n = .cells [.int .i64 4, .int .u64 0, .int .i64 0, .string (mk []), .bool false] T.api_Cell true := by rw [← hH2]; exact set_f_eq
  obtain ⟨d, hd⟩ : ∃ d, decide ((c.toNat : Int) = 1) = d := ⟨_, rfl⟩
  obtain ⟨H3, hH3⟩ : ∃ H3, H2.set H1.n (.cells [.int .i64 4, .int .u64 0, .int .i64 0, .string (mk []), .bool d] T.api_Cell true) = H3 := ⟨_, rfl⟩
  have s3 : Still H1 H3 := by rw [← hH3]; exact Fr.set s2 _ _ (fun h => by omega)
  have f3 : H3.f H1.n = .cells [.int .i64 4, .int .u64 0, .int .i64 0, .string (mk []), .bool d] T.api_Cell true := by rw [← hH3]; exact set_f_eq
  have g3 : H3.f H.n = .cells [.int .i64 0, .int .u64 0, .int .i64 0, .string (mk []), .bool false] T.api_Cell true := by rw [s3.f (by omega) fun h => h]; exact f1
  obtain ⟨H4, hH4⟩ : ∃ H4, H3.set H.n (.cells [.int .i64 4, .int .u64 0, .int .i64 0, .string (mk []), .bool d] T.api_Cell true) = H4 := ⟨_, rfl⟩
  have s4 : Still H H4 := by rw [← hH4]; exact Fr.set (s1.trans s3) _ _ (fun h => by omega)
  have f4 : H4.f H.n = .cells [.int .i64 4, .int .u64 0, .int .i64 0, .string (mk []), .bool d] T.api_Cell true := by rw [← hH4]; exact set_f_eq
  have a1 := slT_lo (s := mk (c :: s)) (q := .i64) (i := 1) (by rw [bl_mk]; simp)
  rw [bl_mk] at a1
  have a1 : slT (.string (mk (c :: s))) (some (.int .i64 1)) none = some (.string (mk s)) := a1
  have ix := xix (s := mk (c :: s)) (i := 0) (by rw [bl_mk]; simp)
  have ix : xindex Tryd.prog T.string (.string (mk (c :: s))) (.int .i64 0) = some (.int .u8 (c.toNat : Int)) := ix
  have hc := c.toNat_lt
  have cv : ∀ H, xconv Tryd.prog T.uint8 T.int (.int .u8 (c.toNat : Int)) H = some (.int .i64 (c.toNat : Int), H) := fun H => by
    refine (xconv_int (a := .u8) (b := .i64) (s := T.uint8) (t := T.int) Tryd.underlying5 Tryd.underlying3).trans ?_
    rw [wrap_i64 ⟨by omega, by omega⟩]
  generalize (c.toNat : Int) = z at *
  apply pure_of _ (d_rows_take _ _ H) rfl
  rotate_left 2
  · simp (disch := first | with_reducible rfl | assumption | omega | rfl | (simp only [go_sem]; first | done | omega)) only [go_sem, ↓reduceIte, reduceCtorEq, Nat.reduceEqDiff, Nat.reduceAdd, Nat.reduceSub, Nat.reduceMul, Nat.reduceDiv, Nat.reduceMod, Nat.reduceLeDiff, Nat.reduceLT, Nat.reduceBEq, Int.reduceEq, Int.reduceBEq, Int.reduceBNe, Int.reduceLT, Int.reduceLE, Int.reduceAdd, Int.reduceSub, Int.reduceNeg, Int.reduceToNat, Int.reducePow, Nat.reducePow, Int.reduceMul, Int.reduceDiv, ↓s_rows_take, hH1, hH2, f2, ix, cv, hd, hH3, f3, a1, g3, hH4, f4, xload_cell]
    rfl
  · exact s4

theorem q_take_uint (c : UInt8) (s : List UInt8) (H : AHeap) : CC F.rows_take [.string (mk (c :: s)), .int .i64 1] H = some (tkV (tkU (numR s c.toNat false)), H) := by
  obtain ⟨H1, hH1⟩ : ∃ H1, H.push (.cells [.int .i64 0, .int .u64 0, .int .i64 0, .string (mk []), .bool false] T.api_Cell true) = H1 := ⟨_, rfl⟩
  have s1 : Still H H1 := by rw [← hH1]; exact (Fr.refl H).push _
  have n1 : H1.n = H.n + 1 := by rw [← hH1]; rfl
  have f1 : H1.f H.n = .cells [.int .i64 0, .int .u64 0, .int .i64 0, .string (mk []), .bool false] T.api_Cell true := by rw [← hH1]; exact push_f_eq rfl
  obtain ⟨H2, hH2⟩ : ∃ H2, (H1.push (.cells [.int .i64 0, .int .u64 0, .int .i64 0, .string (mk []), .bool false] T.api_Cell true)).set H1.n (.cells [.int .i64 1, .int .u64 0, .int .i64 0, .string (mk []), .bool false] T.api_Cell true) = H2 := ⟨_, rfl⟩
  have s2 : Still H1 H2 := by rw [← hH2]; exact Fr.set ((Fr.refl H1).push _) _ _ (fun h => by omega)
  have f2 : H2.f H1.n = .cells [.int .i64 1, .int .u64 0, .int .i64 0, .string (mk []), .bool false] T.api_Cell true := by rw [← hH2]; exact set_f_eq
  have m := q_number s c.toNat false H2
  obtain ⟨u, r, ok, he, hv⟩ : ∃ (u : Nat) (r : List UInt8) (ok : Bool), tkU (numR s c.toNat false) = (⟨1, u, 0, mk [], false⟩, r, ok) ∧ numV (numR s c.toNat false) = .tuple #[.int .u64 (u : Int), .string (mk r), .bool ok] := by
    cases numR s c.toNat false with
    | none => exact ⟨0, [], false, rfl, rfl⟩
    | some p => exact ⟨p.1, p.2, true, rfl, rfl⟩
  rw [hv] at m
  rw [he]
  obtain ⟨H3, hH3⟩ : ∃ H3, H2.set H1.n (.cells [.int .i64 1, .int .u64 (u : Int), .int .i64 0, .string (mk []), .bool false] T.api_Cell true) = H3 := ⟨_, rfl⟩
  have s3 : Still H1 H3 := by rw [← hH3]; exact Fr.set s2 _ _ (fun h => by omega)
  have f3 : H3.f H1.n = .cells [.int .i64 1, .int .u64 (u : Int), .int .i64 0, .string (mk []), .bool false] T.api_Cell true := by rw [← hH3]; exact set_f_eq
  have g3 : H3.f H.n = .cells [.int .i64 0, .int .u64 0, .int .i64 0, .string (mk []), .bool false] T.api_Cell true := by rw [s3.f (by omega) fun h => h]; exact f1
  obtain ⟨H4, hH4⟩ : ∃ H4, H3.set H.n (.cells [.int .i64 1, .int .u64 (u : Int), .int .i64 0, .string (mk []), .bool false] T.api_Cell true) = H4 := ⟨_, rfl⟩
  have s4 : Still H H4 := by rw [← hH4]; exact Fr.set (s1.trans s3) _ _ (fun h => by omega)
  have f4 : H4.f H.n = .cells [.int .i64 1, .int .u64 (u : Int), .int .i64 0, .string (mk []), .bool false] T.api_Cell true := by rw [← hH4]; exact set_f_eq
  have a1 := slT_lo (s := mk (c :: s)) (q := .i64) (i := 1) (by rw [bl_mk]; simp)
  rw [bl_mk] at a1
  have a1 : slT (.string (mk (c :: s))) (some (.int .i64 1)) none = some (.string (mk s)) := a1
  have ix := xix (s := mk (c :: s)) (i := 0) (by rw [bl_mk]; simp)
  have ix : xindex Tryd.prog T.string (.string (mk (c :: s))) (.int .i64 0) = some (.int .u8 (c.toNat : Int)) := ix
  have hc := c.toNat_lt
  have cv : ∀ H, xconv Tryd.prog T.uint8 T.int (.int .u8 (c.toNat : Int)) H = some (.int .i64 (c.toNat : Int), H) := fun H => by
    refine (xconv_int (a := .u8) (b := .i64) (s := T.uint8) (t := T.int) Tryd.underlying5 Tryd.underlying3).trans ?_
    rw [wrap_i64 ⟨by omega, by omega⟩]
  generalize (c.toNat : Int) = z at *
  apply pure_of _ (d_rows_take _ _ H) rfl
  rotate_left 2
  · simp (disch := first | with_reducible rfl | assumption | omega | rfl | (simp only [go_sem]; first | done | omega)) only [go_sem, ↓reduceIte, reduceCtorEq, Nat.reduceEqDiff, Nat.reduceAdd, Nat.reduceSub, Nat.reduceMul, Nat.reduceDiv, Nat.reduceMod, Nat.reduceLeDiff, Nat.reduceLT, Nat.reduceBEq, Int.reduceEq, Int.reduceBEq, Int.reduceBNe, Int.reduceLT, Int.reduceLE, Int.reduceAdd, Int.reduceSub, Int.reduceNeg, Int.reduceToNat, Int.reducePow, Nat.reducePow, Int.reduceMul, Int.reduceDiv, ↓s_rows_take, hH1, hH2, f2, ix, cv, a1, enterK_eq m, hH3, f3, g3, hH4, f4, xload_cell]
    rfl
  · exact s4

/-- What take answers for a kind of numbers with a sign, at or above zero. -/
def tkP : Option (Nat × List UInt8) → Cl × List UInt8 × Bool
  | none => (⟨2, 0, 0, mk [], false⟩, [], false)
  | some (n, r) => (⟨2, 0, IntKind.wrap .i64 (n : Int), mk [], false⟩, r, true)
theorem q_take_pos (c : UInt8) (s : List UInt8) (H : AHeap) (h8 : 128 ≤ c.toNat) : CC F.rows_take [.string (mk (c :: s)), .int .i64 2] H = some (tkV (tkP (numR s (c.toNat - 128) false)), H) := by
  obtain ⟨H1, hH1⟩ : ∃ H1, H.push (.cells [.int .i64 0, .int .u64 0, .int .i64 0, .string (mk []), .bool false] T.api_Cell true) = H1 := ⟨_, rfl⟩
  have s1 : Still H H1 := by rw [← hH1]; exact (Fr.refl H).push _
  have n1 : H1.n = H.n + 1 := by rw [← hH1]; rfl
  have f1 : H1.f H.n = .cells [.int .i64 0, .int .u64 0, .int .i64 0, .string (mk []), .bool false] T.api_Cell true := by rw [← hH1]; exact push_f_eq rfl
  obtain ⟨H2, hH2⟩ : ∃ H2, (H1.push (.cells [.int .i64 0, .int .u64 0, .int .i64 0, .string (mk []), .bool false] T.api_Cell true)).set H1.n (.cells [.int .i64 2, .int .u64 0, .int .i64 0, .string (mk []), .bool false] T.api_Cell true) = H2 := ⟨_, rfl⟩
  have s2 : Still H1 H2 := by rw [← hH2]; exact Fr.set ((Fr.refl H1).push _) _ _ (fun h => by omega)
  have f2 : H2.f H1.n = .cells [.int .i64 2, .int .u64 0, .int .i64 0, .string (mk []), .bool false] T.api_Cell true := by rw [← hH2]; exact set_f_eq
  have m := q_number s (c.toNat - 128) false H2
  obtain ⟨u, i, r, ok, he, hi, hv⟩ : ∃ (u : Nat) (i : Int) (r : List UInt8) (ok : Bool), tkP (numR s (c.toNat - 128) false) = (⟨2, 0, i, mk [], false⟩, r, ok) ∧ IntKind.wrap .i64 (u : Int) = i ∧ numV (numR s (c.toNat - 128) false) = .tuple #[.int .u64 (u : Int), .string (mk r), .bool ok] := by
    cases numR s (c.toNat - 128) false with
    | none => exact ⟨0, 0, [], false, rfl, by decide, rfl⟩
    | some p => exact ⟨p.1, _, p.2, true, rfl, rfl, rfl⟩
  rw [hv] at m
  rw [he]
  obtain ⟨H3, hH3⟩ : ∃ H3, H2.set H1.n (.cells [.int .i64 2, .int .u64 0, .int .i64 i, .string (mk []), .bool false] T.api_Cell true) = H3 := ⟨_, rfl⟩
  have s3 : Still H1 H3 := by rw [← hH3]; exact Fr.set s2 _ _ (fun h => by omega)
  have f3 : H3.f H1.n = .cells [.int .i64 2, .int .u64 0, .int .i64 i, .string (mk []), .bool false] T.api_Cell true := by rw [← hH3]; exact set_f_eq
  have g3 : H3.f H.n = .cells [.int .i64 0, .int .u64 0, .int .i64 0, .string (mk []), .bool false] T.api_Cell true := by rw [s3.f (by omega) fun h => h]; exact f1
  obtain ⟨H4, hH4⟩ : ∃ H4, H3.set H.n (.cells [.int .i64 2, .int .u64 0, .int .i64 i, .string (mk []), .bool false] T.api_Cell true) = H4 := ⟨_, rfl⟩
  have s4 : Still H H4 := by rw [← hH4]; exact Fr.set (s1.trans s3) _ _ (fun h => by omega)
  have f4 : H4.f H.n = .cells [.int .i64 2, .int .u64 0, .int .i64 i, .string (mk []), .bool false] T.api_Cell true := by rw [← hH4]; exact set_f_eq
  have a1 := slT_lo (s := mk (c :: s)) (q := .i64) (i := 1) (by rw [bl_mk]; simp)
  rw [bl_mk] at a1
  have a1 : slT (.string (mk (c :: s))) (some (.int .i64 1)) none = some (.string (mk s)) := a1
  have ix := xix (s := mk (c :: s)) (i := 0) (by rw [bl_mk]; simp)
  have ix : xindex Tryd.prog T.string (.string (mk (c :: s))) (.int .i64 0) = some (.int .u8 (c.toNat : Int)) := ix
  have hc := c.toNat_lt
  have cv : ∀ H, xconv Tryd.prog T.uint8 T.int (.int .u8 (c.toNat : Int)) H = some (.int .i64 (c.toNat : Int), H) := fun H => by
    refine (xconv_int (a := .u8) (b := .i64) (s := T.uint8) (t := T.int) Tryd.underlying5 Tryd.underlying3).trans ?_
    rw [wrap_i64 ⟨by omega, by omega⟩]
  have hge : 128 ≤ (c.toNat : Int) := by omega
  have sb : ∀ ox oy, xbin Tryd.prog .sub T.int ox oy (.int .i64 (c.toNat : Int)) (.int .i64 128) = some (.int .i64 ((c.toNat - 128 : Nat) : Int)) := fun ox oy => by
    rw [show ((c.toNat - 128 : Nat) : Int) = (c.toNat : Int) - 128 by omega]; exact sub_i64 (by omega)
  have cu : ∀ H, xconv Tryd.prog T.uint64 T.int (.int .u64 (u : Int)) H = some (.int .i64 i, H) := fun H => by
    refine (xconv_int (a := .u64) (b := .i64) (s := T.uint64) (t := T.int) Tryd.underlying42 Tryd.underlying3).trans ?_
    rw [hi]
  generalize ((c.toNat - 128 : Nat) : Int) = y at *
  generalize (c.toNat : Int) = z at *
  apply pure_of _ (d_rows_take _ _ H) rfl
  rotate_left 2
  · simp (disch := first | with_reducible rfl | assumption | omega | rfl | (simp only [go_sem]; first | done | omega)) only [go_sem, ↓reduceIte, reduceCtorEq, Nat.reduceEqDiff, Nat.reduceAdd, Nat.reduceSub, Nat.reduceMul, Nat.reduceDiv, Nat.reduceMod, Nat.reduceLeDiff, Nat.reduceLT, Nat.reduceBEq, Int.reduceEq, Int.reduceBEq, Int.reduceBNe, Int.reduceLT, Int.reduceLE, Int.reduceAdd, Int.reduceSub, Int.reduceNeg, Int.reduceToNat, Int.reducePow, Nat.reducePow, Int.reduceMul, Int.reduceDiv, ↓s_rows_take, hH1, hH2, f2, ix, cv, hge, a1, sb, enterK_eq m, cu, hH3, f3, g3, hH4, f4, xload_cell]
    rfl
  · exact s4

/-- What take answers for a kind of numbers with a sign, below zero. -/
def tkN : Option (Nat × List UInt8) → Cl × List UInt8 × Bool
  | none => (⟨2, 0, -1, mk [], false⟩, [], false)
  | some (n, r) => (⟨2, 0, IntKind.wrap .i64 (IntKind.wrap .i64 (-(IntKind.wrap .i64 (n : Int))) - 1), mk [], false⟩, r, true)
theorem q_take_neg (c : UInt8) (s : List UInt8) (H : AHeap) (h8 : c.toNat < 128) : CC F.rows_take [.string (mk (c :: s)), .int .i64 2] H = some (tkV (tkN (numR s (127 - c.toNat) true)), H) := by
  obtain ⟨H1, hH1⟩ : ∃ H1, H.push (.cells [.int .i64 0, .int .u64 0, .int .i64 0, .string (mk []), .bool false] T.api_Cell true) = H1 := ⟨_, rfl⟩
  have s1 : Still H H1 := by rw [← hH1]; exact (Fr.refl H).push _
  have n1 : H1.n = H.n + 1 := by rw [← hH1]; rfl
  have f1 : H1.f H.n = .cells [.int .i64 0, .int .u64 0, .int .i64 0, .string (mk []), .bool false] T.api_Cell true := by rw [← hH1]; exact push_f_eq rfl
  obtain ⟨H2, hH2⟩ : ∃ H2, (H1.push (.cells [.int .i64 0, .int .u64 0, .int .i64 0, .string (mk []), .bool false] T.api_Cell true)).set H1.n (.cells [.int .i64 2, .int .u64 0, .int .i64 0, .string (mk []), .bool false] T.api_Cell true) = H2 := ⟨_, rfl⟩
  have s2 : Still H1 H2 := by rw [← hH2]; exact Fr.set ((Fr.refl H1).push _) _ _ (fun h => by omega)
  have f2 : H2.f H1.n = .cells [.int .i64 2, .int .u64 0, .int .i64 0, .string (mk []), .bool false] T.api_Cell true := by rw [← hH2]; exact set_f_eq
  have m := q_number s (127 - c.toNat) true H2
  obtain ⟨u, i, r, ok, he, hi, hv⟩ : ∃ (u : Nat) (i : Int) (r : List UInt8) (ok : Bool), tkN (numR s (127 - c.toNat) true) = (⟨2, 0, i, mk [], false⟩, r, ok) ∧ IntKind.wrap .i64 (IntKind.wrap .i64 (-(IntKind.wrap .i64 (u : Int))) - 1) = i ∧ numV (numR s (127 - c.toNat) true) = .tuple #[.int .u64 (u : Int), .string (mk r), .bool ok] := by
    cases numR s (127 - c.toNat) true with
    | none => exact ⟨0, -1, [], false, rfl, by decide, rfl⟩
    | some p => exact ⟨p.1, _, p.2, true, rfl, rfl, rfl⟩
  rw [hv] at m
  rw [he]
  obtain ⟨H3, hH3⟩ : ∃ H3, H2.set H1.n (.cells [.int .i64 2, .int .u64 0, .int .i64 i, .string (mk []), .bool false] T.api_Cell true) = H3 := ⟨_, rfl⟩
  have s3 : Still H1 H3 := by rw [← hH3]; exact Fr.set s2 _ _ (fun h => by omega)
  have f3 : H3.f H1.n = .cells [.int .i64 2, .int .u64 0, .int .i64 i, .string (mk []), .bool false] T.api_Cell true := by rw [← hH3]; exact set_f_eq
  have g3 : H3.f H.n = .cells [.int .i64 0, .int .u64 0, .int .i64 0, .string (mk []), .bool false] T.api_Cell true := by rw [s3.f (by omega) fun h => h]; exact f1
  obtain ⟨H4, hH4⟩ : ∃ H4, H3.set H.n (.cells [.int .i64 2, .int .u64 0, .int .i64 i, .string (mk []), .bool false] T.api_Cell true) = H4 := ⟨_, rfl⟩
  have s4 : Still H H4 := by rw [← hH4]; exact Fr.set (s1.trans s3) _ _ (fun h => by omega)
  have f4 : H4.f H.n = .cells [.int .i64 2, .int .u64 0, .int .i64 i, .string (mk []), .bool false] T.api_Cell true := by rw [← hH4]; exact set_f_eq
  have a1 := slT_lo (s := mk (c :: s)) (q := .i64) (i := 1) (by rw [bl_mk]; simp)
  rw [bl_mk] at a1
  have a1 : slT (.string (mk (c :: s))) (some (.int .i64 1)) none = some (.string (mk s)) := a1
  have ix := xix (s := mk (c :: s)) (i := 0) (by rw [bl_mk]; simp)
  have ix : xindex Tryd.prog T.string (.string (mk (c :: s))) (.int .i64 0) = some (.int .u8 (c.toNat : Int)) := ix
  have hc := c.toNat_lt
  have cv : ∀ H, xconv Tryd.prog T.uint8 T.int (.int .u8 (c.toNat : Int)) H = some (.int .i64 (c.toNat : Int), H) := fun H => by
    refine (xconv_int (a := .u8) (b := .i64) (s := T.uint8) (t := T.int) Tryd.underlying5 Tryd.underlying3).trans ?_
    rw [wrap_i64 ⟨by omega, by omega⟩]
  have hge : ¬ 128 ≤ (c.toNat : Int) := by omega
  have sb : ∀ ox oy, xbin Tryd.prog .sub T.int ox oy (.int .i64 127) (.int .i64 (c.toNat : Int)) = some (.int .i64 ((127 - c.toNat : Nat) : Int)) := fun ox oy => by
    rw [show ((127 - c.toNat : Nat) : Int) = 127 - (c.toNat : Int) by omega]; exact sub_i64 (by omega)
  obtain ⟨i0, hi0⟩ : ∃ i0, IntKind.wrap .i64 (u : Int) = i0 := ⟨_, rfl⟩
  rw [hi0] at hi
  obtain ⟨i1, hi1⟩ : ∃ i1, IntKind.wrap .i64 (-i0) = i1 := ⟨_, rfl⟩
  rw [hi1] at hi
  have cu : ∀ H, xconv Tryd.prog T.uint64 T.int (.int .u64 (u : Int)) H = some (.int .i64 i0, H) := fun H => by
    refine (xconv_int (a := .u64) (b := .i64) (s := T.uint64) (t := T.int) Tryd.underlying42 Tryd.underlying3).trans ?_
    rw [hi0]
  have ng : xun Tryd.prog .neg (.int .i64 i0) = some (.int .i64 i1) := by
    have : xun Tryd.prog .neg (.int .i64 i0) = some (.int .i64 (IntKind.wrap .i64 (-i0))) := by
      simp [xun, gr, pvg, pv, Op.unary, Op.intArith, Bind.bind, Sem.bind, Pure.pure]
    rw [this, hi1]
  have sv : ∀ ox oy, xbin Tryd.prog .sub T.int ox oy (.int .i64 i1) (.int .i64 1) = some (.int .i64 i) := fun ox oy => by rw [xbin_sub, hi]
  generalize ((127 - c.toNat : Nat) : Int) = y at *
  generalize (c.toNat : Int) = z at *
  apply pure_of _ (d_rows_take _ _ H) rfl
  rotate_left 2
  · simp (disch := first | with_reducible rfl | assumption | omega | rfl | (simp only [go_sem]; first | done | omega)) only [go_sem, ↓reduceIte, reduceCtorEq, Nat.reduceEqDiff, Nat.reduceAdd, Nat.reduceSub, Nat.reduceMul, Nat.reduceDiv, Nat.reduceMod, Nat.reduceLeDiff, Nat.reduceLT, Nat.reduceBEq, Int.reduceEq, Int.reduceBEq, Int.reduceBNe, Int.reduceLT, Int.reduceLE, Int.reduceAdd, Int.reduceSub, Int.reduceNeg, Int.reduceToNat, Int.reducePow, Nat.reducePow, Int.reduceMul, Int.reduceDiv, ↓s_rows_take, hH1, hH2, f2, ix, cv, hge, a1, sb, enterK_eq m, cu, ng, sv, hH3, f3, g3, hH4, f4, xload_cell]
    rfl
  · exact s4

end Go.Proofs.YtlmhioanjmhaiaaDoor

/-
  Chapter 40: take, of a text; take, all together.
  Conditions: none. By an AI agent.
-/
set_option maxRecDepth 10000
set_option linter.unusedSimpArgs false
set_option linter.unusedVariables false
namespace Go.Proofs.YtlmhioanjmhaiaaDoor
open Go Eng

/-- What take answers for texts. -/
def tkT (s : List UInt8) : Cl × List UInt8 × Bool :=
  if Lib.index s [0, 1] < 0 then (⟨3, 0, 0, mk [], false⟩, [], false)
  else (⟨3, 0, 0, mk (Lib.replaceAll (s.take (Lib.index s [0, 1]).toNat) [0, 255] [0]), false⟩, s.drop ((Lib.index s [0, 1]).toNat + 2), true)

set_option maxHeartbeats 1000000 in
theorem q_take_text (c : UInt8) (s : List UInt8) (H : AHeap) (hl : (c :: s).length ≤ 1000000) : CC F.rows_take [.string (mk (c :: s)), .int .i64 3] H = some (tkV (tkT (c :: s)), H) := by
  obtain ⟨H1, hH1⟩ : ∃ H1, H.push (.cells [.int .i64 0, .int .u64 0, .int .i64 0, .string (mk []), .bool false] T.api_Cell true) = H1 := ⟨_, rfl⟩
  have s1 : Still H H1 := by rw [← hH1]; exact (Fr.refl H).push _
  have n1 : H1.n = H.n + 1 := by rw [← hH1]; rfl
  have f1 : H1.f H.n = .cells [.int .i64 0, .int .u64 0, .int .i64 0, .string (mk []), .bool false] T.api_Cell true := by rw [← hH1]; exact push_f_eq rfl
  obtain ⟨H2, hH2⟩ : ∃ H2, (H1.push (.cells [.int .i64 0, .int .u64 0, .int .i64 0, .string (mk []), .bool false] T.api_Cell true)).set H1.n (.cells [.int .i64 3, .int .u64 0, .int .i64 0, .string (mk []), .bool false] T.api_Cell true) = H2 := ⟨_, rfl⟩
  have s2 : Still H1 H2 := by rw [← hH2]; exact Fr.set ((Fr.refl H1).push _) _ _ (fun h => by omega)
  have f2 : H2.f H1.n = .cells [.int .i64 3, .int .u64 0, .int .i64 0, .string (mk []), .bool false] T.api_Cell true := by rw [← hH2]; exact set_f_eq
  have g2 : H2.f H.n = .cells [.int .i64 0, .int .u64 0, .int .i64 0, .string (mk []), .bool false] T.api_Cell true := by rw [s2.f (by omega) fun h => h]; exact f1
  have ix := xix (s := mk (c :: s)) (i := 0) (by rw [bl_mk]; simp)
  have ix : xindex Tryd.prog T.string (.string (mk (c :: s))) (.int .i64 0) = some (.int .u8 (c.toNat : Int)) := ix
  have hc := c.toNat_lt
  have cv : ∀ H, xconv Tryd.prog T.uint8 T.int (.int .u8 (c.toNat : Int)) H = some (.int .i64 (c.toNat : Int), H) := fun H => by
    refine (xconv_int (a := .u8) (b := .i64) (s := T.uint8) (t := T.int) Tryd.underlying5 Tryd.underlying3).trans ?_
    rw [wrap_i64 ⟨by omega, by omega⟩]
  have m := q_Index (mk (c :: s)) H2 (by rw [bl_mk]; exact hl)
  rw [bl_mk] at m
  have hge := Lib.index_ge (c :: s) [0, 1]
  have hroom := Lib.index_room (c :: s) [0, 1]
  unfold tkT
  by_cases hneg : Lib.index (c :: s) [0, 1] < 0
  · rw [if_pos hneg]
    obtain ⟨H3, hH3⟩ : ∃ H3, H2.set H.n (.cells [.int .i64 3, .int .u64 0, .int .i64 0, .string (mk []), .bool false] T.api_Cell true) = H3 := ⟨_, rfl⟩
    have s3 : Still H H3 := by rw [← hH3]; exact Fr.set (s1.trans s2) _ _ (fun h => by omega)
    have f3 : H3.f H.n = .cells [.int .i64 3, .int .u64 0, .int .i64 0, .string (mk []), .bool false] T.api_Cell true := by rw [← hH3]; exact set_f_eq
    generalize Lib.index (c :: s) [0, 1] = j at *
    generalize (c.toNat : Int) = z at *
    apply pure_of _ (d_rows_take _ _ H) rfl
    rotate_left 2
    · simp (disch := first | with_reducible rfl | assumption | omega | rfl | (simp only [go_sem]; first | done | omega)) only [go_sem, ↓reduceIte, reduceCtorEq, Nat.reduceEqDiff, Nat.reduceAdd, Nat.reduceSub, Nat.reduceMul, Nat.reduceDiv, Nat.reduceMod, Nat.reduceLeDiff, Nat.reduceLT, Nat.reduceBEq, Int.reduceEq, Int.reduceBEq, Int.reduceBNe, Int.reduceLT, Int.reduceLE, Int.reduceAdd, Int.reduceSub, Int.reduceNeg, Int.reduceToNat, Int.reducePow, Nat.reducePow, Int.reduceMul, Int.reduceDiv, ↓s_rows_take, hH1, hH2, f2, g2, ix, cv, enterK_eq m, hneg, hH3, f3, xload_cell]
      rfl
    · exact s3
  · rw [if_neg hneg]
    obtain ⟨n, hn⟩ : ∃ n : Nat, Lib.index (c :: s) [0, 1] = (n : Int) := ⟨(Lib.index (c :: s) [0, 1]).toNat, by omega⟩
    have hroom := hroom (by omega)
    rw [hn] at m hneg hroom ⊢
    rw [Int.toNat_natCast]
    have hroom : n + 2 ≤ (c :: s).length := by
      have : (([0, 1] : List UInt8).length : Int) = 2 := rfl
      omega
    have a1 := slT_hi (s := mk (c :: s)) (q := .i64) (j := n) (by rw [bl_mk]; omega)
    have a2 := slT_lo (s := mk (c :: s)) (q := .i64) (i := n + 2) (by rw [bl_mk]; omega)
    rw [bl_mk] at a1 a2
    have a2 : slT (.string (mk (c :: s))) (some (.int .i64 ((n : Int) + 2))) none = some (.string (mk ((c :: s).drop (n + 2)))) := a2
    have m2 := q_ReplaceAll2 (mk ((c :: s).take n)) H2 (by rw [bl_mk, List.length_take]; omega)
    rw [bl_mk] at m2
    obtain ⟨H3, hH3⟩ : ∃ H3, H2.set H1.n (.cells [.int .i64 3, .int .u64 0, .int .i64 0, .string (mk (Lib.replaceAll ((c :: s).take n) [0, 255] [0])), .bool false] T.api_Cell true) = H3 := ⟨_, rfl⟩
    have s3 : Still H1 H3 := by rw [← hH3]; exact Fr.set s2 _ _ (fun h => by omega)
    have f3 : H3.f H1.n = .cells [.int .i64 3, .int .u64 0, .int .i64 0, .string (mk (Lib.replaceAll ((c :: s).take n) [0, 255] [0])), .bool false] T.api_Cell true := by rw [← hH3]; exact set_f_eq
    have g3 : H3.f H.n = .cells [.int .i64 0, .int .u64 0, .int .i64 0, .string (mk []), .bool false] T.api_Cell true := by rw [s3.f (by omega) fun h => h]; exact f1
    obtain ⟨H4, hH4⟩ : ∃ H4, H3.set H.n (.cells [.int .i64 3, .int .u64 0, .int .i64 0, .string (mk (Lib.replaceAll ((c :: s).take n) [0, 255] [0])), .bool false] T.api_Cell true) = H4 := ⟨_, rfl⟩
    have s4 : Still H H4 := by rw [← hH4]; exact Fr.set (s1.trans s3) _ _ (fun h => by omega)
    have f4 : H4.f H.n = .cells [.int .i64 3, .int .u64 0, .int .i64 0, .string (mk (Lib.replaceAll ((c :: s).take n) [0, 255] [0])), .bool false] T.api_Cell true := by rw [← hH4]; exact set_f_eq
    have ad : ∀ ox oy, xbin Tryd.prog .add T.int ox oy (.int .i64 (n : Int)) (.int .i64 2) = some (.int .i64 ((n : Int) + 2)) := fun ox oy => add_i64 (by omega)
    generalize (c.toNat : Int) = z at *
    generalize Lib.replaceAll ((c :: s).take n) [0, 255] [0] = rp at *
    generalize (c :: s).drop (n + 2) = dr at *
    apply pure_of _ (d_rows_take _ _ H) rfl
    rotate_left 2
    · simp (disch := first | with_reducible rfl | assumption | omega | rfl | (simp only [go_sem]; first | done | omega)) only [go_sem, ↓reduceIte, reduceCtorEq, Nat.reduceEqDiff, Nat.reduceAdd, Nat.reduceSub, Nat.reduceMul, Nat.reduceDiv, Nat.reduceMod, Nat.reduceLeDiff, Nat.reduceLT, Nat.reduceBEq, Int.reduceEq, Int.reduceBEq, Int.reduceBNe, Int.reduceLT, Int.reduceLE, Int.reduceAdd, Int.reduceSub, Int.reduceNeg, Int.reduceToNat, Int.reducePow, Nat.reducePow, Int.reduceMul, Int.reduceDiv, ↓s_rows_take, hH1, hH2, f2, ix, cv, enterK_eq m, hneg, a1, enterK_eq m2, ad, a2, hH3, f3, g3, hH4, f4, xload_cell]
      rfl
    · exact s4

/-- What take answers. -/
def tkC (k : Int) (c : UInt8) (s : List UInt8) : Cl × List UInt8 × Bool :=
  if k = 1 then tkU (numR s c.toNat false)
  else if k = 2 then (if 128 ≤ c.toNat then tkP (numR s (c.toNat - 128) false) else tkN (numR s (127 - c.toNat) true))
  else if k = 3 then tkT (c :: s)
  else (⟨4, 0, 0, mk [], decide ((c.toNat : Int) = 1)⟩, s, true)
def tk (k : Int) : List UInt8 → Cl × List UInt8 × Bool
  | [] => (⟨k, 0, 0, mk [], false⟩, [], false)
  | c :: s => tkC k c s
theorem q_take (k : Int) (s : List UInt8) (H : AHeap) (hk : kindP k = true) (hl : s.length ≤ 1000000) : CC F.rows_take [.string (mk s), .int .i64 k] H = some (tkV (tk k s), H) := by
  cases s with
  | nil => exact q_take_nil k H
  | cons c s =>
    show _ = some (tkV (tkC k c s), H)
    unfold tkC
    by_cases h1 : k = 1
    · subst h1; rw [if_pos rfl]; exact q_take_uint c s H
    rw [if_neg h1]
    by_cases h2 : k = 2
    · subst h2
      rw [if_pos rfl]
      split
      · rename_i h; exact q_take_pos c s H h
      · rename_i h; exact q_take_neg c s H (by omega)
    rw [if_neg h2]
    by_cases h3 : k = 3
    · subst h3
      rw [if_pos rfl]
      exact q_take_text c s H hl
    rw [if_neg h3]
    have h4 : k = 4 := by
      unfold kindP at hk
      simp only [Bool.and_eq_true, decide_eq_true_eq] at hk
      omega
    subst h4
    exact q_take_bool c s H

end Go.Proofs.YtlmhioanjmhaiaaDoor

/-
  Chapter 40: plain: unescaping; what take answers is a cell of its kind's size. Rows of any kind that grow.
  Conditions: none. By an AI agent.
-/
set_option maxRecDepth 10000
set_option linter.unusedSimpArgs false
set_option linter.unusedVariables false
namespace Go.Proofs.YtlmhioanjmhaiaaDoor
open Go Eng

/-! ### unescaping -/
def une : List UInt8 → List UInt8
  | [] => []
  | [c] => [c]
  | c :: d :: l => if c = 0 ∧ d = 255 then 0 :: une l else c :: une (d :: l)
theorem une_len : ∀ l : List UInt8, (une l).length ≤ l.length
  | [] => Nat.le_refl _
  | [_] => Nat.le_refl _
  | c :: d :: l => by
    unfold une
    split
    · have := une_len l; simp; omega
    · have := une_len (d :: l); simp at this ⊢; omega
theorem une_other {c : UInt8} {l : List UInt8} (h : ¬ ([0, 255] : List UInt8).isPrefixOf (c :: l) = true) : une (c :: l) = c :: une l := by
  cases l with
  | nil => rfl
  | cons d l =>
    have : ¬ (c = 0 ∧ d = 255) := by rintro ⟨rfl, rfl⟩; exact h (by simp [List.isPrefixOf])
    rw [une, if_neg this]
theorem index_pre {p l : List UInt8} (h : p.isPrefixOf l = true) : Lib.index l p = 0 := by
  cases l with
  | nil =>
    have : p = [] := by cases p with | nil => rfl | cons a b => simp [List.isPrefixOf] at h
    subst this; rfl
  | cons c l => rw [Lib.index, h]; rfl
theorem index_npre {p : List UInt8} {c : UInt8} {l : List UInt8} (h : ¬ p.isPrefixOf (c :: l) = true) : Lib.index (c :: l) p = if Lib.index l p = -1 then -1 else Lib.index l p + 1 := by
  rw [Lib.index]
  simp only [h, if_false]
  by_cases h1 : Lib.index l p = -1 <;> simp [h1]
theorem count_npre {p : List UInt8} (hp : p ≠ []) {c : UInt8} {l : List UInt8} (h : ¬ p.isPrefixOf (c :: l) = true) : Lib.count (c :: l) p = Lib.count l p := by
  by_cases h1 : Lib.index l p = -1
  · rw [Lib.count_miss h1, Lib.count_miss (by rw [index_npre h, if_pos h1])]
  · have hg := Lib.index_ge l p
    obtain ⟨i, hi⟩ : ∃ i : Nat, Lib.index l p = i := ⟨(Lib.index l p).toNat, by omega⟩
    rw [Lib.count_hit (i := i) hp hi, Lib.count_hit (i := i + 1) hp (by rw [index_npre h, if_neg h1, hi]; omega), Nat.add_right_comm, List.drop_succ_cons]
theorem replaceK_npre {p w : List UInt8} {c : UInt8} {l : List UInt8} (h : ¬ p.isPrefixOf (c :: l) = true) : ∀ k, Lib.replaceK p w k (c :: l) = c :: Lib.replaceK p w k l
  | 0 => rfl
  | k + 1 => by
    by_cases h1 : Lib.index l p = -1
    · have h2 : Lib.index (c :: l) p = -1 := by rw [index_npre h, if_pos h1]
      simp [Lib.replaceK, h1, h2]
    · have hg := Lib.index_ge l p
      obtain ⟨i, hi⟩ : ∃ i : Nat, Lib.index l p = i := ⟨(Lib.index l p).toNat, by omega⟩
      rw [Lib.replaceK_hit _ _ _ _ i hi, Lib.replaceK_hit _ _ _ _ (i + 1) (by rw [index_npre h, if_neg h1, hi]; omega), Nat.add_right_comm, List.drop_succ_cons]
      rfl
theorem repl_une : ∀ (n : Nat) (l : List UInt8), l.length ≤ n → Lib.replaceK [0, 255] [0] (Lib.count l [0, 255]) l = une l
  | _, [], _ => by simp [Lib.count, Lib.countFrom, Lib.index, Lib.replaceK, une]
  | n + 1, c :: l, hn => by
    by_cases h : ([0, 255] : List UInt8).isPrefixOf (c :: l) = true
    · have hi := index_pre h
      obtain ⟨m, rfl, rfl⟩ : ∃ m, c = 0 ∧ l = 255 :: m := by
        cases l with
        | nil => simp [List.isPrefixOf] at h
        | cons d m => simp [List.isPrefixOf] at h; exact ⟨m, h.1.symm, by rw [h.2]⟩
      rw [Lib.count_hit (i := 0) (by simp) hi, Nat.add_comm 1, Lib.replaceK_hit _ _ _ _ 0 hi]
      show [] ++ [0] ++ Lib.replaceK [0, 255] [0] (Lib.count m [0, 255]) m = _
      rw [repl_une n m (by simp at hn; omega), une, if_pos ⟨rfl, rfl⟩]
      rfl
    · rw [count_npre (by simp) h, replaceK_npre h, repl_une n l (by simp at hn; omega), une_other h]
theorem replaceAll_une (l : List UInt8) : Lib.replaceAll l [0, 255] [0] = une l := by
  unfold Lib.replaceAll Lib.replace Lib.replaceNum
  have h : ¬ (([0, 255] : List UInt8) == [0]) = true := by decide
  rw [if_neg h, if_pos (.inl (by decide))]
  exact repl_une l.length l (Nat.le_refl _)

/-! ### sizes -/
theorem numF_lt : ∀ (l : List UInt8) (a : Nat), numF a l < (a + 1) * 256 ^ l.length
  | [], a => by simp [numF]
  | c :: l, a => by
    have h := numF_lt l (a * 256 + c.toNat)
    have hc := c.toNat_lt
    rw [numF, List.length_cons, Nat.pow_succ]
    refine Nat.lt_of_lt_of_le h ?_
    rw [Nat.mul_comm (256 ^ l.length) 256, ← Nat.mul_assoc]
    exact Nat.mul_le_mul_right _ (by omega)
theorem numR_lt {s : List UInt8} {n : Nat} {inv : Bool} {u : Nat} {r : List UInt8} (h : numR s n inv = some (u, r)) : u < 18446744073709551616 ∧ r.length ≤ s.length := by
  unfold numR at h
  split at h
  · cases h
  · rename_i h1
    cases h
    have hl : (invL inv (s.take n)).length ≤ 8 := by cases inv <;> simp [invL] <;> omega
    have := numF_lt (invL inv (s.take n)) 0
    have h8 : (256 : Nat) ^ (invL inv (s.take n)).length ≤ 256 ^ 8 := Nat.pow_le_pow_right (by decide) hl
    have : (256 : Nat) ^ 8 = 18446744073709551616 := by decide
    refine ⟨by omega, by simp⟩
theorem wrap64_rng (a : Int) : -9223372036854775808 ≤ IntKind.wrap .i64 a ∧ IntKind.wrap .i64 a < 9223372036854775808 := by
  unfold IntKind.wrap
  simp only [IntKind.bits, IntKind.signed]
  simp
  split <;> omega
theorem tk_ok {k : Int} {s : List UInt8} (hl : s.length ≤ 1000) : CellOk (tk k s).1 ∧ (tk k s).2.1.length ≤ s.length := by
  cases s with
  | nil => exact ⟨⟨⟨by simp [tk], by simp [tk]⟩, ⟨by simp [tk], by simp [tk]⟩, by simp [tk]⟩, Nat.le_refl _⟩
  | cons c s =>
    show CellOk (tkC k c s).1 ∧ (tkC k c s).2.1.length ≤ (c :: s).length
    unfold tkC
    split
    · cases h : numR s c.toNat false with
      | none => exact ⟨⟨⟨by decide, by decide⟩, ⟨by decide, by decide⟩, by simp [tkU]⟩, by simp [tkU]⟩
      | some p =>
        obtain ⟨h1, h2⟩ := numR_lt (u := p.1) (r := p.2) h
        exact ⟨⟨⟨by simp [tkU], by simp [tkU]; omega⟩, ⟨by simp [tkU], by simp [tkU]⟩, by simp [tkU]⟩, by simp [tkU]; omega⟩
    · split
      · split
        · cases h : numR s (c.toNat - 128) false with
          | none => exact ⟨⟨⟨by decide, by decide⟩, ⟨by decide, by decide⟩, by simp [tkP]⟩, by simp [tkP]⟩
          | some p =>
            obtain ⟨h1, h2⟩ := numR_lt (u := p.1) (r := p.2) h
            exact ⟨⟨⟨by simp [tkP], by simp [tkP]⟩, wrap64_rng _, by simp [tkP]⟩, by simp [tkP]; omega⟩
        · cases h : numR s (127 - c.toNat) true with
          | none => exact ⟨⟨⟨by decide, by decide⟩, ⟨by decide, by decide⟩, by simp [tkN]⟩, by simp [tkN]⟩
          | some p =>
            obtain ⟨h1, h2⟩ := numR_lt (u := p.1) (r := p.2) h
            exact ⟨⟨⟨by simp [tkN], by simp [tkN]⟩, wrap64_rng _, by simp [tkN]⟩, by simp [tkN]; omega⟩
      · split
        · unfold tkT
          split
          · exact ⟨⟨⟨by decide, by decide⟩, ⟨by decide, by decide⟩, by simp⟩, by simp⟩
          · refine ⟨⟨⟨by simp, by simp⟩, ⟨by simp, by simp⟩, ?_⟩, by dsimp only; rw [List.length_drop]; omega⟩
            rw [replaceAll_une]
            have := une_len ((c :: s).take (Lib.index (c :: s) [0, 1]).toNat)
            have h2 : ((c :: s).take (Lib.index (c :: s) [0, 1]).toNat).length ≤ (c :: s).length := by simp; omega
            dsimp only
            rw [bl_mk]
            omega
        · exact ⟨⟨⟨by simp, by simp⟩, ⟨by simp, by simp⟩, by simp⟩, by simp⟩

/-! ### rows of any kind -/
structure SinceE {α : Type} (E : Enc α) (e : TypeId) (H0 H : AHeap) (v : Value) (l : List α) : Prop where
  still : Still H0 H
  own : Own E H e v l
  new : ∀ b, blockOf v = some b → H0.n ≤ b
section
variable {α : Type} {E : Enc α} {e : TypeId}
theorem SinceE.nil {H : AHeap} : SinceE E e H H (.slice none 0 0) [] := ⟨Fr.refl H, .inl ⟨rfl, rfl⟩, fun b h => by cases h⟩
theorem SinceE.to {H0 H H' : AHeap} {v : Value} {l : List α} (r : SinceE E e H0 H v l) (s : Still H H') : SinceE E e H0 H' v l := ⟨r.still.trans s, r.own.still s, r.new⟩
theorem SinceE.app {H0 H : AHeap} {v : Value} {l : List α} (r : SinceE E e H0 H v l) (m : List α) {sz bytes : Nat} (hsz : sz = E.w) (hb : bytes ≤ 1000) {src : Option (Nat × List Value)} (hsrc : src = some (m.length, E.cells m)) (hl : l.length + m.length ≤ 1000000) :
    ∃ v' H', Eng.app e sz bytes v src H = some (v', H') ∧ SinceE E e H0 H' v' (l ++ m) := by
  have hmul : (l.length + m.length) * bytes ≤ 1000000 * 1000 := Nat.mul_le_mul hl hb
  obtain ⟨v', H', e1, e2, e3, e4⟩ := r.own.appA m (sz := sz) (bytes := bytes) hsz (by omega) (by omega) hsrc
  refine ⟨v', H', e1, r.still.then e3 fun b hb h => ?_, e2, fun b h => ?_⟩
  · unfold OnlyOf at h; have := r.new b h; omega
  · rcases e4 with h4 | h4
    · rw [h4] at h; exact r.new b h
    · rw [h4] at h; cases h; exact r.still.n
theorem newE {H : AHeap} {l : List α} {b : Nat} (hb : b < H.n) (hf : H.f b = .cells (E.cells l) e true) : RdS E e H (.slice (some ⟨b, 0, none⟩) l.length (2 * l.length)) l := by
  refine ⟨?_, .inr ⟨b, 0, _, _, rfl, by omega, .inl (by omega), hb⟩⟩
  by_cases h0 : l = []
  · subst h0; exact .inr (.inl ⟨rfl, _, _, rfl, rfl⟩)
  · refine .inr (.inr ⟨b, 0, _, rfl, h0, hb, ?_⟩)
    rw [hf, cutB_c (by simp), List.drop_zero, List.take_of_length_le (by simp)]
theorem SinceE.lit {H0 H : AHeap} {v : Value} {l : List α} (r : SinceE E e H0 H v l) (m : List α) {sz bytes : Nat} (hsz : sz = E.w) (hby : bytes ≤ 1000) {H1 : AHeap} (h1 : H.push (.cells (E.cells m) e true) = H1) (hb : l.length + m.length ≤ 1000000) :
    ∃ v' H', Eng.app e sz bytes v (srcS sz (.slice (some ⟨H.n, 0, none⟩) m.length (2 * m.length)) H1) H1 = some (v', H') ∧ SinceE E e H0 H' v' (l ++ m) := by
  have s1 : Still H H1 := by rw [← h1]; exact (Fr.refl H).push _
  have n1 : H1.n = H.n + 1 := by rw [← h1]; rfl
  have f1 : H1.f H.n = .cells (E.cells m) e true := by rw [← h1]; exact push_f_eq rfl
  have rm : RdS E e H1 (.slice (some ⟨H.n, 0, none⟩) m.length (2 * m.length)) m := newE (by omega) f1
  exact (r.to s1).app m hsz hby (rm.1.src hsz) hb
end

end Go.Proofs.YtlmhioanjmhaiaaDoor

/-
  Chapter 40: Read.
  Conditions: none. By an AI agent.
-/
set_option maxRecDepth 10000
set_option linter.unusedSimpArgs false
set_option linter.unusedVariables false
namespace Go.Proofs.YtlmhioanjmhaiaaDoor
open Go Eng

/-- The cells that a string begins with. -/
def takesP : List Int → List UInt8 → Option (List Cl)
  | [], _ => some []
  | k :: ks, s => if (tk k s).2.2 = true then (takesP ks (tk k s).2.1).map ((tk k s).1 :: ·) else none
theorem takesP_ok : ∀ (ks : List Int) (s : List UInt8) (l : List Cl), s.length ≤ 1000 → takesP ks s = some l → l.length = ks.length ∧ ∀ c ∈ l, CellOk c
  | [], s, l, _, h => by cases h; exact ⟨rfl, by simp⟩
  | k :: ks, s, l, hs, h => by
    unfold takesP at h
    split at h
    · obtain ⟨m, h1, rfl⟩ := Option.map_eq_some_iff.1 h
      have h2 := tk_ok (k := k) hs
      have := takesP_ok ks _ m (by omega) h1
      refine ⟨by simp [this.1], fun c hc => ?_⟩
      rcases List.mem_cons.1 hc with rfl | hc
      · exact h2.1
      · exact this.2 c hc
    · cases h

set_option maxHeartbeats 1000000 in
theorem l_Read1 (v1 v2 v3 v27 v28 v29 kv : Value) (kl : List Int) (H0 : AHeap) (hk : KR H0 kv kl) (hkl : kl.length ≤ 8) (hkk : ∀ k ∈ kl, kindP k = true) : ∀ (t : List Int) (i : Nat) (H : AHeap) (v : Value) (o : List Cl) (s : List UInt8), kl.drop i = t → s.length ≤ 1000 → o.length ≤ 100 + i → SinceE ECl T.api_Cell H0 H v o →
    (takesP t s = none → ∃ H', Still H0 H' ∧ ∀ K : K, l_rows_Read_1 v1 v2 v3 v (.string (mk s)) v27 v28 v29 kv (.int .i64 (kl.length : Int)) (.int .i64 (i : Int)) H (blkK [1, 2, 3, 8, 27, 28, 29] 2 K) = K .ret [(6, .slice none 0 0), (7, .int .i64 12)] H') ∧
    (∀ l, takesP t s = some l → ∃ v' H', SinceE ECl T.api_Cell H0 H' v' (o ++ l) ∧ ∀ K : K, l_rows_Read_1 v1 v2 v3 v (.string (mk s)) v27 v28 v29 kv (.int .i64 (kl.length : Int)) (.int .i64 (i : Int)) H (blkK [1, 2, 3, 8, 27, 28, 29] 2 K) = K .normal [(1, v1), (2, v2), (3, v3), (8, v'), (27, v27), (28, v28), (29, v29)] H')
  | [], i, H, v, o, s, hx, hs, ho, so => by
    have h : kl.length ≤ i := List.drop_eq_nil_iff.1 hx
    have hlt : ¬ (i : Int) < (kl.length : Int) := by omega
    refine ⟨fun h => (by simp [takesP] at h), fun l hl => ?_⟩
    cases hl
    refine ⟨v, H, by simpa using so, fun K => ?_⟩
    rw [r_rows_Read_1]
    simp (disch := first | with_reducible rfl | assumption | omega | rfl | (simp only [go_sem]; first | done | omega)) only [go_sem, ↓reduceIte, reduceCtorEq, Nat.reduceEqDiff, Nat.reduceAdd, Nat.reduceSub, Nat.reduceMul, Nat.reduceDiv, Nat.reduceMod, Nat.reduceLeDiff, Nat.reduceLT, Nat.reduceBEq, Int.reduceEq, Int.reduceBEq, Int.reduceBNe, Int.reduceLT, Int.reduceLE, Int.reduceAdd, Int.reduceSub, Int.reduceNeg, Int.reduceToNat, Int.reducePow, Nat.reducePow, Int.reduceMul, Int.reduceDiv, ↓s_rows_Read_b1, hlt]
  | k :: t, i, H, v, o, s, hx, hs, ho, so => by
    obtain ⟨h, hxa, hx'⟩ := drop_cons hx
    have hlt : (i : Int) < (kl.length : Int) := by omega
    obtain ⟨b2, o2, i2, c2⟩ := rd_kind (hk.still so.still) h (iv := (i : Int)) rfl
    rw [hxa] at c2
    have hkp := hkk k (by rw [← hxa]; exact List.getElem_mem h)
    have m := q_take k s H hkp (by omega)
    have hok := tk_ok (k := k) hs
    unfold takesP
    obtain ⟨⟨⟨ck, cu, ci, cs, cb⟩, r, ok⟩, hy⟩ : ∃ y, tk k s = y := ⟨_, rfl⟩
    rw [hy] at m hok ⊢
    dsimp only at hok ⊢
    have m : CC F.rows_take [.string (mk s), .int .i64 k] H = some (.tuple #[.agg ⟨[.int .i64 ck, .int .u64 cu, .int .i64 ci, .string cs, .bool cb]⟩, .string (mk r), .bool ok], H) := m
    obtain ⟨H1, hH1⟩ : ∃ H1, (H.push (.cells [.int .i64 0, .int .u64 0, .int .i64 0, .string (mk []), .bool false] T.api_Cell true)).set H.n (.cells [.int .i64 ck, .int .u64 cu, .int .i64 ci, .string cs, .bool cb] T.api_Cell true) = H1 := ⟨_, rfl⟩
    have s1 : Still H H1 := by rw [← hH1]; exact Fr.set ((Fr.refl H).push _) _ _ (fun h => by omega)
    have f1 : H1.f H.n = .cells [.int .i64 ck, .int .u64 cu, .int .i64 ci, .string cs, .bool cb] T.api_Cell true := by rw [← hH1]; exact set_f_eq
    cases ok with
    | false =>
      refine ⟨fun _ => ⟨H1, so.still.trans s1, fun K => ?_⟩, fun l h => by simp at h⟩
      rw [r_rows_Read_1]
      simp (disch := first | with_reducible rfl | assumption | omega | rfl | (simp only [go_sem]; first | done | omega)) only [go_sem, ↓reduceIte, reduceCtorEq, Nat.reduceEqDiff, Nat.reduceAdd, Nat.reduceSub, Nat.reduceMul, Nat.reduceDiv, Nat.reduceMod, Nat.reduceLeDiff, Nat.reduceLT, Nat.reduceBEq, Int.reduceEq, Int.reduceBEq, Int.reduceBNe, Int.reduceLT, Int.reduceLE, Int.reduceAdd, Int.reduceSub, Int.reduceNeg, Int.reduceToNat, Int.reducePow, Nat.reducePow, Int.reduceMul, Int.reduceDiv, ↓s_rows_Read_b1, hlt, i2, c2, enterK_eq m, hH1]
    | true =>
      rw [if_pos rfl]
      obtain ⟨H2, hH2⟩ : ∃ H2, H1.push (.cells [.int .i64 ck, .int .u64 cu, .int .i64 ci, .string cs, .bool cb] T.api_Cell true) = H2 := ⟨_, rfl⟩
      have hH2' : H1.push (.cells (ECl.cells [⟨ck, cu, ci, cs, cb⟩]) T.api_Cell true) = H2 := hH2
      obtain ⟨v3', H3, a3, s3⟩ := (so.to s1).lit (sz := 5) (bytes := 48) [⟨ck, cu, ci, cs, cb⟩] rfl (by decide) hH2' (by simp; omega)
      have a3 : Eng.app T.api_Cell 5 48 v (srcS 5 (.slice (some ⟨H1.n, 0, none⟩) 1 2) H2) H2 = some (v3', H3) := a3
      obtain ⟨k1, k2⟩ := l_Read1 v1 v2 v3 v27 v28 v29 kv kl H0 hk hkl hkk t (i + 1) H3 v3' (o ++ [⟨ck, cu, ci, cs, cb⟩]) r hx' (by omega) (by simp; omega) s3
      rw [Int.natCast_add] at k1 k2
      refine ⟨fun h3 => ?_, fun l h3 => ?_⟩
      · obtain ⟨H', s', e'⟩ := k1 (by cases hq : takesP t r with | none => rfl | some q => rw [hq] at h3; cases h3)
        refine ⟨H', s', fun K => ?_⟩
        have := e' K
        rw [r_rows_Read_1]
        simp (disch := first | with_reducible rfl | assumption | omega | rfl | (simp only [go_sem]; first | done | omega)) only [go_sem, ↓reduceIte, reduceCtorEq, Nat.reduceEqDiff, Nat.reduceAdd, Nat.reduceSub, Nat.reduceMul, Nat.reduceDiv, Nat.reduceMod, Nat.reduceLeDiff, Nat.reduceLT, Nat.reduceBEq, Int.reduceEq, Int.reduceBEq, Int.reduceBNe, Int.reduceLT, Int.reduceLE, Int.reduceAdd, Int.reduceSub, Int.reduceNeg, Int.reduceToNat, Int.reducePow, Nat.reducePow, Int.reduceMul, Int.reduceDiv, ↓s_rows_Read_b1, hlt, i2, c2, enterK_eq m, hH1, f1, hH2, a3]
        exact this
      · obtain ⟨l', h4, rfl⟩ := Option.map_eq_some_iff.1 h3
        obtain ⟨v', H', s', e'⟩ := k2 l' h4
        refine ⟨v', H', by simpa using s', fun K => ?_⟩
        have := e' K
        rw [r_rows_Read_1]
        simp (disch := first | with_reducible rfl | assumption | omega | rfl | (simp only [go_sem]; first | done | omega)) only [go_sem, ↓reduceIte, reduceCtorEq, Nat.reduceEqDiff, Nat.reduceAdd, Nat.reduceSub, Nat.reduceMul, Nat.reduceDiv, Nat.reduceMod, Nat.reduceLeDiff, Nat.reduceLT, Nat.reduceBEq, Int.reduceEq, Int.reduceBEq, Int.reduceBNe, Int.reduceLT, Int.reduceLE, Int.reduceAdd, Int.reduceSub, Int.reduceNeg, Int.reduceToNat, Int.reducePow, Nat.reducePow, Int.reduceMul, Int.reduceDiv, ↓s_rows_Read_b1, hlt, i2, c2, enterK_eq m, hH1, f1, hH2, a3]
        exact this

end Go.Proofs.YtlmhioanjmhaiaaDoor

/-
  Chapter 40: Read.
  Conditions: none. By an AI agent.
-/
set_option maxRecDepth 10000
set_option linter.unusedSimpArgs false
set_option linter.unusedVariables false
namespace Go.Proofs.YtlmhioanjmhaiaaDoor
open Go Eng

def readP (kl rl : List Int) (kt val : List UInt8) : Option (List Cl) := (takesP kl kt).bind fun a => (takesP rl val).map (a ++ ·)
/-- What Read answers. -/
def readR (n : Int) (kl rl : List Int) (key val : List UInt8) : List Cl × Int :=
  if validP n kl rl = true then
    (match key with
     | [] => ([], 12)
     | _ :: kt => match readP kl rl kt val with
       | none => ([], 12)
       | some out => if rowR n kl rl out = (key, val, 0) then (out, 0) else ([], 12))
  else ([], 2)

theorem okk {n : Int} {kl rl : List Int} (h : validP n kl rl = true) : (∀ k ∈ kl, kindP k = true) ∧ (∀ k ∈ rl, kindP k = true) ∧ 1 ≤ kl.length := by
  unfold validP at h
  simp only [Bool.and_eq_true, decide_eq_true_eq, List.all_append, List.all_eq_true] at h
  exact ⟨h.2.2.2.2.2.1, h.2.2.2.2.2.2, h.2.2.1⟩

theorem read_nil {n : Int} {kv rv : Value} {kl rl : List Int} {key val : List UInt8} {H : AHeap} {e : Int} (h : CC F.rows_Read [tbV n kv rv, .string (mk key), .string (mk val)] H = some (.tuple #[.slice none 0 0, .int .i64 e], H)) (hr : readR n kl rl key val = ([], e)) :
    ∃ v' H', CC F.rows_Read [tbV n kv rv, .string (mk key), .string (mk val)] H = some (.tuple #[v', .int .i64 (readR n kl rl key val).2], H') ∧ SinceE ECl T.api_Cell H H' v' (readR n kl rl key val).1 := by
  rw [hr]
  exact ⟨_, _, h, SinceE.nil⟩

set_option maxHeartbeats 2000000 in
theorem q_Read (n : Int) (kv rv : Value) (kl rl : List Int) (key val : List UInt8) (H : AHeap) (ok : OkH H) (hk : KR H kv kl) (hr : KR H rv rl) (hkl : key.length ≤ 1000) (hvl : val.length ≤ 1000) :
    ∃ v' H', CC F.rows_Read [tbV n kv rv, .string (mk key), .string (mk val)] H = some (.tuple #[v', .int .i64 (readR n kl rl key val).2], H') ∧ SinceE ECl T.api_Cell H H' v' (readR n kl rl key val).1 := by
  obtain ⟨H1, hH1⟩ : ∃ H1, H.push (.cells [.int .i64 n, kv, rv] T.api_Table true) = H1 := ⟨_, rfl⟩
  have s1 : Still H H1 := by rw [← hH1]; exact (Fr.refl H).push _
  have n1 : H1.n = H.n + 1 := by rw [← hH1]; rfl
  have f1 : H1.f H.n = .cells [.int .i64 n, kv, rv] T.api_Table true := by rw [← hH1]; exact push_f_eq rfl
  have m1 := q_Valid n kv rv kl rl H1 (hk.still s1) (hr.still s1)
  cases hv : validP n kl rl with
  | false =>
    rw [hv] at m1
    refine read_nil (e := 2) ?_ (by unfold readR; rw [if_neg (by rw [hv]; decide)])
    apply pure_of _ (d_rows_Read _ _ _ H) rfl
    rotate_left 2
    · simp (disch := first | with_reducible rfl | assumption | omega | rfl | (simp only [go_sem]; first | done | omega)) only [go_sem, ↓reduceIte, reduceCtorEq, Nat.reduceEqDiff, Nat.reduceAdd, Nat.reduceSub, Nat.reduceMul, Nat.reduceDiv, Nat.reduceMod, Nat.reduceLeDiff, Nat.reduceLT, Nat.reduceBEq, Int.reduceEq, Int.reduceBEq, Int.reduceBNe, Int.reduceLT, Int.reduceLE, Int.reduceAdd, Int.reduceSub, Int.reduceNeg, Int.reduceToNat, Int.reducePow, Nat.reducePow, Int.reduceMul, Int.reduceDiv, ↓s_rows_Read, hH1, f1, ↓enterK_eq m1, enterK_eq m1]
      rfl
    · exact s1
  | true =>
  rw [hv] at m1
  obtain ⟨hkk, hrk, hk1⟩ := okk hv
  obtain ⟨_, _, hk8, hr8⟩ := validP_n hv
  cases key with
  | nil =>
    refine read_nil (e := 12) ?_ (by unfold readR; rw [if_pos hv])
    apply pure_of _ (d_rows_Read _ _ _ H) rfl
    rotate_left 2
    · simp (disch := first | with_reducible rfl | assumption | omega | rfl | (simp only [go_sem]; first | done | omega)) only [go_sem, ↓reduceIte, reduceCtorEq, Nat.reduceEqDiff, Nat.reduceAdd, Nat.reduceSub, Nat.reduceMul, Nat.reduceDiv, Nat.reduceMod, Nat.reduceLeDiff, Nat.reduceLT, Nat.reduceBEq, Int.reduceEq, Int.reduceBEq, Int.reduceBNe, Int.reduceLT, Int.reduceLE, Int.reduceAdd, Int.reduceSub, Int.reduceNeg, Int.reduceToNat, Int.reducePow, Nat.reducePow, Int.reduceMul, Int.reduceDiv, ↓s_rows_Read, hH1, f1, ↓enterK_eq m1, enterK_eq m1, bl_mk]
      rfl
    · exact s1
  | cons c kt =>
  have hktl : kt.length ≤ 1000 := by simp at hkl; omega
  have a1 := slT_lo (s := mk (c :: kt)) (q := .i64) (i := 1) (by rw [bl_mk]; simp)
  rw [bl_mk] at a1
  have a1 : slT (.string (mk (c :: kt))) (some (.int .i64 1)) none = some (.string (mk kt)) := a1
  have hne : ¬ (c :: kt = []) := by simp
  obtain ⟨key, hkey⟩ : ∃ key, c :: kt = key := ⟨_, rfl⟩
  have eR : readR n kl rl (c :: kt) val = (match readP kl rl kt val with | none => ([], 12) | some out => if rowR n kl rl out = (c :: kt, val, 0) then (out, 0) else ([], 12)) := by
    show (if validP n kl rl = true then _ else _) = _
    rw [if_pos hv]
  rw [hkey] at a1 hne eR ⊢
  obtain ⟨H2, hH2⟩ : ∃ H2, H1.push (.cells [.string (mk kt), .string (mk val)] T.string true) = H2 := ⟨_, rfl⟩
  have s2 : Still H1 H2 := by rw [← hH2]; exact (Fr.refl H1).push _
  have n2 : H2.n = H1.n + 1 := by rw [← hH2]; rfl
  have f2 : H2.f H1.n = .cells [.string (mk kt), .string (mk val)] T.string true := by rw [← hH2]; exact push_f_eq rfl
  have g2 : H2.f H.n = .cells [.int .i64 n, kv, rv] T.api_Table true := by rw [s2.f (by omega) fun h => h]; exact f1
  obtain ⟨H3, hH3⟩ : ∃ H3, H2.push (.cells [kv, rv] T.sl_api_CellKind true) = H3 := ⟨_, rfl⟩
  have s3 : Still H2 H3 := by rw [← hH3]; exact (Fr.refl H2).push _
  have n3 : H3.n = H2.n + 1 := by rw [← hH3]; rfl
  have f3 : H3.f H2.n = .cells [kv, rv] T.sl_api_CellKind true := by rw [← hH3]; exact push_f_eq rfl
  have s03 : Still H H3 := (s1.trans s2).trans s3
  have lk := hk.1.lenS
  have lr := hr.1.lenS
  have sx : Value.slice (some ⟨H1.n, 0, none⟩) 2 4 = .slice (some ⟨H1.n, 0, none⟩) 2 4 := rfl
  obtain ⟨w, hw⟩ : ∃ w, Value.slice (some ⟨H1.n, 0, none⟩) 2 4 = w := ⟨_, rfl⟩
  have wl : lenS w = some (.int .i64 2) := by rw [← hw]; rfl
  have w0 : ixS 1 w (.int .i64 0) = some (.pointer (some ⟨H1.n, 0, none⟩)) := by rw [← hw]; rfl
  have w1 : ixS 1 w (.int .i64 1) = some (.pointer (some ⟨H1.n, 1, none⟩)) := by rw [← hw]; rfl
  have bl0 : ∀ H, bldL T.sl_api_CellKind [.slice none 0 0] 2 [(0, kv), (1, rv)] H = some (.slice (some ⟨H.n, 0, none⟩) 2 4, H.push (.cells [kv, rv] T.sl_api_CellKind true)) := fun H => by
    obtain ⟨a, cc, e⟩ := hk.1.shape; obtain ⟨a', cc', e'⟩ := hr.1.shape; rw [e, e']; rfl
  obtain ⟨p1, p2⟩ := l_Read1 (.string (mk key)) (.string (mk val)) (.pointer (some ⟨H.n, 0, none⟩)) w (.int .i64 2) (.int .i64 0) kv kl H3 (hk.still s03) hk8 hkk kl 0 H3 (.slice none 0 0) [] kt (by simp) hktl (by simp) SinceE.nil
  cases ha : takesP kl kt with
  | none =>
    obtain ⟨H4, s4, e4⟩ := p1 ha
    have e4 : ∀ K : K, l_rows_Read_1 (.string (mk key)) (.string (mk val)) (.pointer (some ⟨H.n, 0, none⟩)) (.slice none 0 0) (.string (mk kt)) w (.int .i64 2) (.int .i64 0) kv (.int .i64 (kl.length : Int)) (.int .i64 0) H3 (blkK [1, 2, 3, 8, 27, 28, 29] 2 K) = K .ret [(6, .slice none 0 0), (7, .int .i64 12)] H4 := e4
    have eP : readP kl rl kt val = none := by unfold readP; rw [ha]; rfl
    refine read_nil (kl := kl) (rl := rl) (e := 12) ?_ (by rw [eR, eP])
    have z : ∀ K : K, l_rows_Read_0 (.string (mk key)) (.string (mk val)) (.pointer (some ⟨H.n, 0, none⟩)) (.slice none 0 0) w (.int .i64 2) (.int .i64 0) H2 (blkK [1, 2, 3, 8] 0 K) = K .ret [(6, .slice none 0 0), (7, .int .i64 12)] H4 := fun K => by
      rw [r_rows_Read_0]
      simp (disch := first | with_reducible rfl | assumption | omega | rfl | (simp only [go_sem]; first | done | omega)) only [go_sem, ↓reduceIte, reduceCtorEq, Nat.reduceEqDiff, Nat.reduceAdd, Nat.reduceSub, Nat.reduceMul, Nat.reduceDiv, Nat.reduceMod, Nat.reduceLeDiff, Nat.reduceLT, Nat.reduceBEq, Int.reduceEq, Int.reduceBEq, Int.reduceBNe, Int.reduceLT, Int.reduceLE, Int.reduceAdd, Int.reduceSub, Int.reduceNeg, Int.reduceToNat, Int.reducePow, Nat.reducePow, Int.reduceMul, Int.reduceDiv, ↓s_rows_Read_b0, w0, f2, g2, ↓bl0, hH3, f3, lk, e4]
    apply pure_of _ (d_rows_Read _ _ _ H) rfl
    rotate_left 2
    · simp (disch := first | with_reducible rfl | assumption | omega | rfl | (simp only [go_sem]; first | done | omega)) only [go_sem, ↓reduceIte, reduceCtorEq, Nat.reduceEqDiff, Nat.reduceAdd, Nat.reduceSub, Nat.reduceMul, Nat.reduceDiv, Nat.reduceMod, Nat.reduceLeDiff, Nat.reduceLT, Nat.reduceBEq, Int.reduceEq, Int.reduceBEq, Int.reduceBNe, Int.reduceLT, Int.reduceLE, Int.reduceAdd, Int.reduceSub, Int.reduceNeg, Int.reduceToNat, Int.reducePow, Nat.reducePow, Int.reduceMul, Int.reduceDiv, ↓s_rows_Read, hH1, f1, ↓enterK_eq m1, enterK_eq m1, bl_mk, hne, a1, hH2, hw, wl, z]
      rfl
    · exact s03.trans s4
  | some la =>
  obtain ⟨va, H4, so4, e4⟩ := p2 la ha
  have e4 : ∀ K : K, l_rows_Read_1 (.string (mk key)) (.string (mk val)) (.pointer (some ⟨H.n, 0, none⟩)) (.slice none 0 0) (.string (mk kt)) w (.int .i64 2) (.int .i64 0) kv (.int .i64 (kl.length : Int)) (.int .i64 0) H3 (blkK [1, 2, 3, 8, 27, 28, 29] 2 K) = K .normal [(1, .string (mk key)), (2, .string (mk val)), (3, .pointer (some ⟨H.n, 0, none⟩)), (8, va), (27, w), (28, .int .i64 2), (29, .int .i64 0)] H4 := e4
  rw [List.nil_append] at so4
  obtain ⟨hla, hca⟩ := takesP_ok kl kt la hktl ha
  have f4 : H4.f H1.n = .cells [.string (mk kt), .string (mk val)] T.string true := by rw [(s3.trans so4.still).f (by omega) fun h => h]; exact f2
  have g4 : H4.f H.n = .cells [.int .i64 n, kv, rv] T.api_Table true := by rw [(s3.trans so4.still).f (by omega) fun h => h]; exact g2
  obtain ⟨H5, hH5⟩ : ∃ H5, H4.push (.cells [kv, rv] T.sl_api_CellKind true) = H5 := ⟨_, rfl⟩
  have s5 : Still H4 H5 := by rw [← hH5]; exact (Fr.refl H4).push _
  have f5 : H5.f H4.n = .cells [kv, rv] T.sl_api_CellKind true := by rw [← hH5]; exact push_f_eq rfl
  obtain ⟨p1, p2⟩ := l_Read1 (.string (mk key)) (.string (mk val)) (.pointer (some ⟨H.n, 0, none⟩)) w (.int .i64 2) (.int .i64 1) rv rl H3 (hr.still s03) hr8 hrk rl 0 H5 va la val (by simp) hvl (by omega) (so4.to s5)
  cases hb : takesP rl val with
  | none =>
    obtain ⟨H6, s6, e6⟩ := p1 hb
    have e6 : ∀ K : K, l_rows_Read_1 (.string (mk key)) (.string (mk val)) (.pointer (some ⟨H.n, 0, none⟩)) va (.string (mk val)) w (.int .i64 2) (.int .i64 1) rv (.int .i64 (rl.length : Int)) (.int .i64 0) H5 (blkK [1, 2, 3, 8, 27, 28, 29] 2 K) = K .ret [(6, .slice none 0 0), (7, .int .i64 12)] H6 := e6
    have eP : readP kl rl kt val = none := by unfold readP; rw [ha, hb]; rfl
    refine read_nil (kl := kl) (rl := rl) (e := 12) ?_ (by rw [eR, eP])
    have z1 : ∀ K : K, l_rows_Read_0 (.string (mk key)) (.string (mk val)) (.pointer (some ⟨H.n, 0, none⟩)) va w (.int .i64 2) (.int .i64 1) H4 (blkK [1, 2, 3, 8] 0 K) = K .ret [(6, .slice none 0 0), (7, .int .i64 12)] H6 := fun K => by
      rw [r_rows_Read_0]
      simp (disch := first | with_reducible rfl | assumption | omega | rfl | (simp only [go_sem]; first | done | omega)) only [go_sem, ↓reduceIte, reduceCtorEq, Nat.reduceEqDiff, Nat.reduceAdd, Nat.reduceSub, Nat.reduceMul, Nat.reduceDiv, Nat.reduceMod, Nat.reduceLeDiff, Nat.reduceLT, Nat.reduceBEq, Int.reduceEq, Int.reduceBEq, Int.reduceBNe, Int.reduceLT, Int.reduceLE, Int.reduceAdd, Int.reduceSub, Int.reduceNeg, Int.reduceToNat, Int.reducePow, Nat.reducePow, Int.reduceMul, Int.reduceDiv, ↓s_rows_Read_b0, w1, f4, g4, ↓bl0, hH5, f5, lr, e6]
    have z : ∀ K : K, l_rows_Read_0 (.string (mk key)) (.string (mk val)) (.pointer (some ⟨H.n, 0, none⟩)) (.slice none 0 0) w (.int .i64 2) (.int .i64 0) H2 (blkK [1, 2, 3, 8] 0 K) = K .ret [(6, .slice none 0 0), (7, .int .i64 12)] H6 := fun K => by
      have := z1 K
      rw [r_rows_Read_0]
      simp (disch := first | with_reducible rfl | assumption | omega | rfl | (simp only [go_sem]; first | done | omega)) only [go_sem, ↓reduceIte, reduceCtorEq, Nat.reduceEqDiff, Nat.reduceAdd, Nat.reduceSub, Nat.reduceMul, Nat.reduceDiv, Nat.reduceMod, Nat.reduceLeDiff, Nat.reduceLT, Nat.reduceBEq, Int.reduceEq, Int.reduceBEq, Int.reduceBNe, Int.reduceLT, Int.reduceLE, Int.reduceAdd, Int.reduceSub, Int.reduceNeg, Int.reduceToNat, Int.reducePow, Nat.reducePow, Int.reduceMul, Int.reduceDiv, ↓s_rows_Read_b0, w0, f2, g2, ↓bl0, hH3, f3, lk, e4]
      exact this
    apply pure_of _ (d_rows_Read _ _ _ H) rfl
    rotate_left 2
    · simp (disch := first | with_reducible rfl | assumption | omega | rfl | (simp only [go_sem]; first | done | omega)) only [go_sem, ↓reduceIte, reduceCtorEq, Nat.reduceEqDiff, Nat.reduceAdd, Nat.reduceSub, Nat.reduceMul, Nat.reduceDiv, Nat.reduceMod, Nat.reduceLeDiff, Nat.reduceLT, Nat.reduceBEq, Int.reduceEq, Int.reduceBEq, Int.reduceBNe, Int.reduceLT, Int.reduceLE, Int.reduceAdd, Int.reduceSub, Int.reduceNeg, Int.reduceToNat, Int.reducePow, Nat.reducePow, Int.reduceMul, Int.reduceDiv, ↓s_rows_Read, hH1, f1, ↓enterK_eq m1, enterK_eq m1, bl_mk, hne, a1, hH2, hw, wl, z]
      rfl
    · exact s03.trans s6
  | some lb =>
  obtain ⟨vb, H6, so6, e6⟩ := p2 lb hb
  have e6 : ∀ K : K, l_rows_Read_1 (.string (mk key)) (.string (mk val)) (.pointer (some ⟨H.n, 0, none⟩)) va (.string (mk val)) w (.int .i64 2) (.int .i64 1) rv (.int .i64 (rl.length : Int)) (.int .i64 0) H5 (blkK [1, 2, 3, 8, 27, 28, 29] 2 K) = K .normal [(1, .string (mk key)), (2, .string (mk val)), (3, .pointer (some ⟨H.n, 0, none⟩)), (8, vb), (27, w), (28, .int .i64 2), (29, .int .i64 1)] H6 := e6
  obtain ⟨hlb, hcb⟩ := takesP_ok rl val lb hvl hb
  have eP : readP kl rl kt val = some (la ++ lb) := by unfold readP; rw [ha, hb]; rfl
  obtain ⟨L, hL⟩ : ∃ L, la ++ lb = L := ⟨_, rfl⟩
  have hLl : 1 ≤ L.length ∧ L.length ≤ 100 := by rw [← hL, List.length_append]; omega
  have hLc : ∀ x ∈ L, CellOk x := fun x hx => by
    rw [← hL] at hx
    rcases List.mem_append.1 hx with h | h
    · exact hca x h
    · exact hcb x h
  rw [hL] at eP so6
  rw [eP] at eR
  have eR : readR n kl rl key val = if rowR n kl rl L = (key, val, 0) then (L, 0) else ([], 12) := eR
  have s06 : Still H H6 := s03.trans so6.still
  have g6 : H6.f H.n = .cells [.int .i64 n, kv, rv] T.api_Table true := by rw [(s3.trans so6.still).f (by omega) fun h => h]; exact g2
  have z2 : ∀ K : K, l_rows_Read_0 (.string (mk key)) (.string (mk val)) (.pointer (some ⟨H.n, 0, none⟩)) vb w (.int .i64 2) (.int .i64 2) H6 (blkK [1, 2, 3, 8] 0 K) = K .normal [(1, .string (mk key)), (2, .string (mk val)), (3, .pointer (some ⟨H.n, 0, none⟩)), (8, vb)] H6 := fun K => by
    rw [r_rows_Read_0]
    simp (disch := first | with_reducible rfl | assumption | omega | rfl | (simp only [go_sem]; first | done | omega)) only [go_sem, ↓reduceIte, reduceCtorEq, Nat.reduceEqDiff, Nat.reduceAdd, Nat.reduceSub, Nat.reduceMul, Nat.reduceDiv, Nat.reduceMod, Nat.reduceLeDiff, Nat.reduceLT, Nat.reduceBEq, Int.reduceEq, Int.reduceBEq, Int.reduceBNe, Int.reduceLT, Int.reduceLE, Int.reduceAdd, Int.reduceSub, Int.reduceNeg, Int.reduceToNat, Int.reducePow, Nat.reducePow, Int.reduceMul, Int.reduceDiv, ↓s_rows_Read_b0]
  have z1 : ∀ K : K, l_rows_Read_0 (.string (mk key)) (.string (mk val)) (.pointer (some ⟨H.n, 0, none⟩)) va w (.int .i64 2) (.int .i64 1) H4 (blkK [1, 2, 3, 8] 0 K) = K .normal [(1, .string (mk key)), (2, .string (mk val)), (3, .pointer (some ⟨H.n, 0, none⟩)), (8, vb)] H6 := fun K => by
    have := z2 K
    rw [r_rows_Read_0]
    simp (disch := first | with_reducible rfl | assumption | omega | rfl | (simp only [go_sem]; first | done | omega)) only [go_sem, ↓reduceIte, reduceCtorEq, Nat.reduceEqDiff, Nat.reduceAdd, Nat.reduceSub, Nat.reduceMul, Nat.reduceDiv, Nat.reduceMod, Nat.reduceLeDiff, Nat.reduceLT, Nat.reduceBEq, Int.reduceEq, Int.reduceBEq, Int.reduceBNe, Int.reduceLT, Int.reduceLE, Int.reduceAdd, Int.reduceSub, Int.reduceNeg, Int.reduceToNat, Int.reducePow, Nat.reducePow, Int.reduceMul, Int.reduceDiv, ↓s_rows_Read_b0, w1, f4, g4, ↓bl0, hH5, f5, lr, e6]
    exact this
  have z : ∀ K : K, l_rows_Read_0 (.string (mk key)) (.string (mk val)) (.pointer (some ⟨H.n, 0, none⟩)) (.slice none 0 0) w (.int .i64 2) (.int .i64 0) H2 (blkK [1, 2, 3, 8] 0 K) = K .normal [(1, .string (mk key)), (2, .string (mk val)), (3, .pointer (some ⟨H.n, 0, none⟩)), (8, vb)] H6 := fun K => by
    have := z1 K
    rw [r_rows_Read_0]
    simp (disch := first | with_reducible rfl | assumption | omega | rfl | (simp only [go_sem]; first | done | omega)) only [go_sem, ↓reduceIte, reduceCtorEq, Nat.reduceEqDiff, Nat.reduceAdd, Nat.reduceSub, Nat.reduceMul, Nat.reduceDiv, Nat.reduceMod, Nat.reduceLeDiff, Nat.reduceLT, Nat.reduceBEq, Int.reduceEq, Int.reduceBEq, Int.reduceBNe, Int.reduceLT, Int.reduceLE, Int.reduceAdd, Int.reduceSub, Int.reduceNeg, Int.reduceToNat, Int.reducePow, Nat.reducePow, Int.reduceMul, Int.reduceDiv, ↓s_rows_Read_b0, w0, f2, g2, ↓bl0, hH3, f3, lk, e4]
    exact this
  have m6 := q_Row' n kv rv kl rl L vb H6 (s06.ok ok) (hk.still s06) (hr.still s06) so6.own.sl hLl.2 hLc
  obtain ⟨⟨ra, rb, re⟩, hrow⟩ : ∃ y, rowR n kl rl L = y := ⟨_, rfl⟩
  rw [hrow] at m6 eR
  dsimp only at m6
  by_cases hre : re = 0
  · by_cases hra : ra = key
    · by_cases hrb : rb = val
      · have hre' : (re = 0) = True := by simp [hre]
        have hra' : (ra = key) = True := by simp [hra]
        have hrb' : (rb = val) = True := by simp [hrb]
        rw [if_pos (by rw [hre, hra, hrb])] at eR
        rw [eR]
        have hg : gr 9 (.tuple #[vb, .int .i64 0]) = false := by
          rcases so6.own with ⟨e, _⟩ | ⟨_, a, h, _⟩ | ⟨b', o', c', xs', h, _⟩
          · rw [e] at hLl; simp at hLl
          · rw [h]; rfl
          · rw [h]; rfl
        refine ⟨vb, H6, (d_rows_Read _ _ _ H ?_).trans (congrArg some (tidy_mem hg)), s06, so6.own, fun b h => Nat.le_trans s03.n (so6.new b h)⟩
        simp (disch := first | with_reducible rfl | assumption | omega | rfl | (simp only [go_sem]; first | done | omega)) only [go_sem, ↓reduceIte, reduceCtorEq, Nat.reduceEqDiff, Nat.reduceAdd, Nat.reduceSub, Nat.reduceMul, Nat.reduceDiv, Nat.reduceMod, Nat.reduceLeDiff, Nat.reduceLT, Nat.reduceBEq, Int.reduceEq, Int.reduceBEq, Int.reduceBNe, Int.reduceLT, Int.reduceLE, Int.reduceAdd, Int.reduceSub, Int.reduceNeg, Int.reduceToNat, Int.reducePow, Nat.reducePow, Int.reduceMul, Int.reduceDiv, ↓s_rows_Read, hH1, f1, ↓enterK_eq m1, enterK_eq m1, bl_mk, hne, a1, hH2, hw, wl, z, g6, ↓enterK_eq m6, enterK_eq m6, hre', hra', hrb']
      · rw [if_neg (fun e => hrb (by cases e; rfl))] at eR
        have hre' : (re = 0) = True := by simp [hre]
        have hra' : (ra = key) = True := by simp [hra]
        refine read_nil (kl := kl) (rl := rl) (e := 12) ?_ eR
        apply pure_of _ (d_rows_Read _ _ _ H) rfl
        rotate_left 2
        · simp (disch := first | with_reducible rfl | assumption | omega | rfl | (simp only [go_sem]; first | done | omega)) only [go_sem, ↓reduceIte, reduceCtorEq, Nat.reduceEqDiff, Nat.reduceAdd, Nat.reduceSub, Nat.reduceMul, Nat.reduceDiv, Nat.reduceMod, Nat.reduceLeDiff, Nat.reduceLT, Nat.reduceBEq, Int.reduceEq, Int.reduceBEq, Int.reduceBNe, Int.reduceLT, Int.reduceLE, Int.reduceAdd, Int.reduceSub, Int.reduceNeg, Int.reduceToNat, Int.reducePow, Nat.reducePow, Int.reduceMul, Int.reduceDiv, ↓s_rows_Read, hH1, f1, ↓enterK_eq m1, enterK_eq m1, bl_mk, hne, a1, hH2, hw, wl, z, g6, ↓enterK_eq m6, enterK_eq m6, hre', hra', hrb]
          rfl
        · exact s06
    · rw [if_neg (fun e => hra (by cases e; rfl))] at eR
      have hre' : (re = 0) = True := by simp [hre]
      refine read_nil (kl := kl) (rl := rl) (e := 12) ?_ eR
      apply pure_of _ (d_rows_Read _ _ _ H) rfl
      rotate_left 2
      · simp (disch := first | with_reducible rfl | assumption | omega | rfl | (simp only [go_sem]; first | done | omega)) only [go_sem, ↓reduceIte, reduceCtorEq, Nat.reduceEqDiff, Nat.reduceAdd, Nat.reduceSub, Nat.reduceMul, Nat.reduceDiv, Nat.reduceMod, Nat.reduceLeDiff, Nat.reduceLT, Nat.reduceBEq, Int.reduceEq, Int.reduceBEq, Int.reduceBNe, Int.reduceLT, Int.reduceLE, Int.reduceAdd, Int.reduceSub, Int.reduceNeg, Int.reduceToNat, Int.reducePow, Nat.reducePow, Int.reduceMul, Int.reduceDiv, ↓s_rows_Read, hH1, f1, ↓enterK_eq m1, enterK_eq m1, bl_mk, hne, a1, hH2, hw, wl, z, g6, ↓enterK_eq m6, enterK_eq m6, hre', hra]
        rfl
      · exact s06
  · rw [if_neg (fun e => hre (by cases e; rfl))] at eR
    refine read_nil (kl := kl) (rl := rl) (e := 12) ?_ eR
    apply pure_of _ (d_rows_Read _ _ _ H) rfl
    rotate_left 2
    · simp (disch := first | with_reducible rfl | assumption | omega | rfl | (simp only [go_sem]; first | done | omega)) only [go_sem, ↓reduceIte, reduceCtorEq, Nat.reduceEqDiff, Nat.reduceAdd, Nat.reduceSub, Nat.reduceMul, Nat.reduceDiv, Nat.reduceMod, Nat.reduceLeDiff, Nat.reduceLT, Nat.reduceBEq, Int.reduceEq, Int.reduceBEq, Int.reduceBNe, Int.reduceLT, Int.reduceLE, Int.reduceAdd, Int.reduceSub, Int.reduceNeg, Int.reduceToNat, Int.reducePow, Nat.reducePow, Int.reduceMul, Int.reduceDiv, ↓s_rows_Read, hH1, f1, ↓enterK_eq m1, enterK_eq m1, bl_mk, hne, a1, hH2, hw, wl, z, g6, ↓enterK_eq m6, enterK_eq m6, hre]
      rfl
    · exact s06

end Go.Proofs.YtlmhioanjmhaiaaDoor

/-
  Chapter 40: plain: take inverts the bytes of a cell; Read inverts Row.
  Conditions: none. By an AI agent.
-/
set_option maxRecDepth 10000
set_option linter.unusedSimpArgs false
set_option linter.unusedVariables false
namespace Go.Proofs.YtlmhioanjmhaiaaDoor
open Go Eng

theorem by8_nat {n : Nat} (h : n < 256) : (by8 n).toNat = n := by
  unfold by8; rw [UInt8.toNat_ofNat']; omega
theorem numF_app : ∀ (l : List UInt8) (c : UInt8) (a : Nat), numF a (l ++ [c]) = numF a l * 256 + c.toNat
  | [], _, _ => rfl
  | d :: l, c, a => numF_app l c (a * 256 + d.toNat)
theorem by8_toNat (n : Nat) : (by8 n).toNat = n % 256 := by unfold by8; rw [UInt8.toNat_ofNat']
theorem numF_dg : ∀ (k n : Nat), n < 256 ^ k → numF 0 (dg n) = n
  | 0, n, h => by
    have h : n < 1 := h
    have : n = 0 := by omega
    subst this; rw [dg_zero]; rfl
  | k + 1, n, h => by
    by_cases h0 : n = 0
    · subst h0; rw [dg_zero]; rfl
    · rw [dg_pos h0, numF_app, numF_dg k (n / 256) (by rw [Nat.pow_succ] at h; omega), by8_toNat]
      omega
theorem inv8_inv8 (c : UInt8) : inv8 (inv8 c) = c := by
  have h := c.toNat_lt
  apply UInt8.toNat_inj.1
  have : (inv8 c).toNat = 255 - c.toNat := by_nat (by omega)
  rw [show inv8 (inv8 c) = by8 (255 - (inv8 c).toNat) from rfl, by8_nat (by omega), this]
  omega
where by_nat {n : Nat} (h : n < 256) : (by8 n).toNat = n := by8_nat h
theorem numR_dg {n k : Nat} (h : n < 256 ^ 8) (r : List UInt8) (hk : k = (dg n).length) : numR (dg n ++ r) k false = some (n, r) := by
  subst hk
  have hl := dg_len 8 n h
  unfold numR
  rw [if_neg (by simp; omega), List.take_left' rfl, List.drop_left' rfl]
  show some (numF 0 (dg n), r) = _
  rw [numF_dg 8 n h]
theorem numR_inv {n k : Nat} (h : n < 256 ^ 8) (r : List UInt8) (hk : k = (dg n).length) : numR ((dg n).map inv8 ++ r) k true = some (n, r) := by
  subst hk
  have hl := dg_len 8 n h
  have hm : ((dg n).map inv8).length = (dg n).length := by simp
  unfold numR
  rw [if_neg (by simp; omega), List.take_left' hm, List.drop_left' hm]
  show some (numF 0 (((dg n).map inv8).map inv8), r) = _
  have : ((dg n).map inv8).map inv8 = dg n := by
    rw [List.map_map]
    have : inv8 ∘ inv8 = id := funext inv8_inv8
    rw [this, List.map_id]
  rw [this, numF_dg 8 n h]

theorem une_esc : ∀ l : List UInt8, une (esc l) = l
  | [] => rfl
  | c :: l => by
    by_cases h : c = 0
    · subst h
      simp only [esc, if_true]
      rw [une, if_pos ⟨rfl, rfl⟩, une_esc l]
    · simp only [esc, h, if_false]
      rw [une_other (by simp [List.isPrefixOf]; intro e; exact absurd e.symm h), une_esc l]
theorem index_esc : ∀ (l r : List UInt8), Lib.index (esc l ++ 0 :: 1 :: r) [0, 1] = ((esc l).length : Int)
  | [], r => by
    show Lib.index (0 :: 1 :: r) [0, 1] = 0
    exact index_pre (by simp [List.isPrefixOf])
  | c :: l, r => by
    have ih := index_esc l r
    by_cases h : c = 0
    · subst h
      simp only [esc, if_true, List.cons_append, List.length_cons]
      rw [index_npre (by simp [List.isPrefixOf]), index_npre (by simp [List.isPrefixOf]), ih]
      simp only [show ¬ (((esc l).length : Int) = -1) by omega, if_false, show ¬ (((esc l).length : Int) + 1 = -1) by omega]
      omega
    · simp only [esc, h, if_false, List.cons_append, List.length_cons]
      rw [index_npre (by simp [List.isPrefixOf]; intro e; exact absurd e.symm h), ih]
      simp only [show ¬ (((esc l).length : Int) = -1) by omega, if_false]
      omega
theorem tkT_esc (l r : List UInt8) : tkT (esc l ++ 0 :: 1 :: r) = (⟨3, 0, 0, mk l, false⟩, r, true) := by
  unfold tkT
  rw [index_esc, if_neg (by omega), Int.toNat_natCast, List.take_left' rfl, replaceAll_une, une_esc]
  congr 2
  rw [List.drop_append, List.drop_eq_nil_of_le (by omega), show (esc l).length + 2 - (esc l).length = 2 by omega]
  rfl

theorem mk_nil {s : ByteArray} (h : bl s = []) : s = mk [] := bl_inj (by rw [h, bl_mk])
theorem enc_ne {c : Cl} (h : CellOk c) : enc c ≠ [] := (enc_len h).2
theorem tk_cons (k : Int) (c : UInt8) (s : List UInt8) : tk k (c :: s) = tkC k c s := rfl

/-- take gives back the cell whose bytes a string begins with. -/
theorem tk_enc {c : Cl} {k : Int} (hk : kindP k = true) (hc : CellOk c) (hp : properP c k = true) (r : List UInt8) : tk k (enc c ++ r) = (c, r, true) := by
  obtain ⟨k1, u1, i1, s1, b1⟩ := c
  unfold properP at hp
  simp only [decide_eq_true_eq] at hp
  obtain ⟨rfl, hu, hi, hs, hb⟩ := hp
  obtain ⟨⟨hu0, hu1⟩, ⟨hi0, hi1⟩, hsl⟩ := hc
  dsimp only at hu0 hu1 hi0 hi1 hsl
  have p8 : (256 : Nat) ^ 8 = 18446744073709551616 := by decide
  unfold enc
  dsimp only
  by_cases h1 : k1 = 1
  · subst h1
    have hi := hi.resolve_left (by decide); have hs := mk_nil (hs.resolve_left (by decide)); have hb := hb.resolve_left (by decide)
    subst hi hs hb
    have hl := dg_len 8 u1.toNat (by omega)
    rw [if_pos rfl, List.cons_append, tk_cons]
    unfold tkC
    rw [if_pos rfl, by8_nat (by omega), numR_dg (by omega) r rfl]
    show ((⟨1, ((u1.toNat : Nat) : Int), 0, mk [], false⟩ : Cl), r, true) = _
    rw [show ((u1.toNat : Nat) : Int) = u1 by omega]
  rw [if_neg h1]
  have hu := hu.resolve_left h1
  subst hu
  by_cases h2 : k1 = 2
  · subst h2
    have hs := mk_nil (hs.resolve_left (by decide)); have hb := hb.resolve_left (by decide)
    subst hs hb
    rw [if_pos rfl]
    by_cases h0 : 0 ≤ i1
    · have hl := dg_len 8 i1.toNat (by omega)
      rw [if_pos h0, List.cons_append, tk_cons]
      unfold tkC
      rw [if_neg (by decide), if_pos rfl, by8_nat (by omega), if_pos (by omega), show 128 + (dg i1.toNat).length - 128 = (dg i1.toNat).length by omega, numR_dg (by omega) r rfl]
      show ((⟨2, 0, IntKind.wrap .i64 ((i1.toNat : Nat) : Int), mk [], false⟩ : Cl), r, true) = _
      rw [show ((i1.toNat : Nat) : Int) = i1 by omega, wrap_i64 ⟨by omega, by omega⟩]
    · obtain ⟨j, hj⟩ : ∃ j : Nat, -(i1 + 1) = j := ⟨(-(i1 + 1)).toNat, by omega⟩
      rw [hj, Int.toNat_natCast]
      have hl := dg_len 8 j (by omega)
      rw [if_neg h0, List.cons_append, tk_cons]
      unfold tkC
      rw [if_neg (by decide), if_pos rfl, by8_nat (by omega), if_neg (by omega), show 127 - (127 - (dg j).length) = (dg j).length by omega, numR_inv (by omega) r rfl]
      show ((⟨2, 0, IntKind.wrap .i64 (IntKind.wrap .i64 (-(IntKind.wrap .i64 (j : Int))) - 1), mk [], false⟩ : Cl), r, true) = _
      rw [wrap_i64 (n := (j : Int)) ⟨by omega, by omega⟩, wrap_i64 (n := -(j : Int)) ⟨by omega, by omega⟩, wrap_i64 (n := -(j : Int) - 1) ⟨by omega, by omega⟩, show -(j : Int) - 1 = i1 by omega]
  rw [if_neg h2]
  have hi := hi.resolve_left h2
  subst hi
  by_cases h3 : k1 = 3
  · subst h3
    have hb := hb.resolve_left (by decide)
    subst hb
    rw [if_pos rfl]
    obtain ⟨x, t, hx⟩ : ∃ x t, esc (bl s1) ++ [0, 1] ++ r = x :: t := by
      cases he : esc (bl s1) with
      | nil => exact ⟨_, _, rfl⟩
      | cons a b => exact ⟨_, _, rfl⟩
    have e := tkT_esc (bl s1) r
    have : esc (bl s1) ++ 0 :: 1 :: r = esc (bl s1) ++ [0, 1] ++ r := by simp
    rw [this, hx] at e
    rw [hx, tk_cons]
    unfold tkC
    rw [if_neg (by decide), if_neg (by decide), if_pos rfl, e, mk_bl]
  rw [if_neg h3]
  have hs := mk_nil (hs.resolve_left h3)
  subst hs
  have h4 : k1 = 4 := by
    unfold kindP at hk
    simp only [Bool.and_eq_true, decide_eq_true_eq] at hk
    omega
  subst h4
  cases b1 with
  | true =>
    rw [if_pos rfl, List.cons_append, tk_cons]
    unfold tkC
    rw [if_neg (by decide), if_neg (by decide), if_neg (by decide)]
    rfl
  | false =>
    rw [if_neg (by decide), List.cons_append, tk_cons]
    unfold tkC
    rw [if_neg (by decide), if_neg (by decide), if_neg (by decide)]
    rfl

theorem takesP_enc : ∀ (ks : List Int) (l : List Cl) (r : List UInt8), (∀ k ∈ ks, kindP k = true) → (∀ c ∈ l, CellOk c) → areP l ks = true → takesP ks (encs l ++ r) = some l
  | [], [], _, _, _, _ => rfl
  | [], _ :: _, _, _, _, h => by simp [areP] at h
  | _ :: _, [], _, _, _, h => by simp [areP] at h
  | k :: ks, c :: l, r, hk, hc, h => by
    have h : l.length = ks.length ∧ properP c k = true ∧ are2 l ks = true := by
      unfold areP at h
      simp only [List.length_cons, are2, Bool.and_eq_true, decide_eq_true_eq] at h
      exact ⟨by omega, h.2.1, h.2.2⟩
    have ih := takesP_enc ks l r (fun x hx => hk x (by simp [hx])) (fun x hx => hc x (by simp [hx])) (by unfold areP; simp [h.1, h.2.2])
    have e := tk_enc (hk k (by simp)) (hc c (by simp)) h.2.1 (encs l ++ r)
    rw [encs, List.append_assoc, takesP, e]
    simp only [if_true, ih, Option.map_some]

theorem are2_split : ∀ (l : List Cl) (a b : List Int), l.length = a.length + b.length → are2 l (a ++ b) = (are2 (l.take a.length) a && are2 (l.drop a.length) b)
  | l, [], b, h => by simp [are2]
  | [], k :: a, b, h => by exfalso; simp only [List.length_nil, List.length_cons] at h; omega
  | c :: l, k :: a, b, h => by
    show (properP c k && are2 l (a ++ b)) = _
    rw [are2_split l a b (by simp at h; omega)]
    simp [are2, Bool.and_assoc]
theorem areP_split {l : List Cl} {a b : List Int} (h : areP l (a ++ b) = true) : areP (l.take a.length) a = true ∧ areP (l.drop a.length) b = true ∧ l.length = a.length + b.length := by
  unfold areP at h
  simp only [Bool.and_eq_true, decide_eq_true_eq, List.length_append] at h
  have h2 := h.2
  rw [are2_split l a b h.1, Bool.and_eq_true] at h2
  unfold areP
  refine ⟨?_, ?_, h.1⟩
  · simp only [Bool.and_eq_true, decide_eq_true_eq, List.length_take]; exact ⟨by omega, h2.1⟩
  · simp only [Bool.and_eq_true, decide_eq_true_eq, List.length_drop]; exact ⟨by omega, h2.2⟩

theorem rowR_ok {n : Int} {kl rl : List Int} {l : List Cl} {key val : List UInt8} (h : rowR n kl rl l = (key, val, 0)) : rowOk n kl rl l = true ∧ key = keyB n kl l ∧ val = valB kl l ∧ (keyB n kl l).length ≤ 24 ∧ (valB kl l).length ≤ 40 := by
  unfold rowR at h
  split at h
  · rename_i h1
    split at h
    · cases h
    · rename_i h2
      cases h
      exact ⟨h1, rfl, rfl, by omega, by omega⟩
  · cases h
/-- Read inverts Row. -/
theorem readR_row {n : Int} {kl rl : List Int} {l : List Cl} {key val : List UInt8} (hc : ∀ c ∈ l, CellOk c) (h : rowR n kl rl l = (key, val, 0)) : readR n kl rl key val = (l, 0) := by
  obtain ⟨h1, h2, h3, _, _⟩ := rowR_ok h
  unfold rowOk at h1
  simp only [Bool.and_eq_true] at h1
  obtain ⟨hv, ha⟩ := h1
  obtain ⟨hk, hr, _⟩ := okk hv
  obtain ⟨ha1, ha2, hl⟩ := areP_split ha
  unfold readR
  rw [if_pos hv]
  obtain ⟨x, hx⟩ : ∃ x, keyB n kl l = x := ⟨_, rfl⟩
  have e1 := takesP_enc kl (l.take kl.length) [] hk (fun c h => hc c (List.mem_of_mem_take h)) ha1
  have e2 := takesP_enc rl (l.drop kl.length) [] hr (fun c h => hc c (List.mem_of_mem_drop h)) ha2
  rw [List.append_nil] at e1 e2
  have eP : readP kl rl (encs (l.take kl.length)) val = some l := by
    unfold readP
    rw [h3, show valB kl l = encs (l.drop kl.length) from rfl, e1, e2]
    simp
  subst h2
  unfold keyB at h ⊢
  simp only [eP]
  rw [if_pos h]

end Go.Proofs.YtlmhioanjmhaiaaDoor

/-
  Chapter 40: RowsSpans, its arguments.
  Conditions: none. By an AI agent.
-/
set_option maxRecDepth 10000
set_option linter.unusedSimpArgs false
set_option linter.unusedVariables false
namespace Go.Proofs.YtlmhioanjmhaiaaDoor
open Go Eng

structure Sl where
  a : Option Addr
  n : Nat
  c : Nat
def Sl.v (s : Sl) : Value := .slice s.a s.n s.c
structure Tb where
  n : Int
  k : Sl
  r : Sl
def ETb : Enc Tb := ⟨3, fun t => [.int .i64 t.n, t.k.v, t.r.v], fun _ => rfl, by decide, fun _ => rfl⟩

theorem decK {W : World} {H : Type} {enc : TypeId × Value → H} (_ : 0 < W.heap.size) {cs : List Value} {n : Nat} {y : DataW H × List MemPlace} (h : DataW.trod enc Tryd.prog W 0 (fun _ => true) true n T.api_CellKind cs = some y) (hl : cs.length = EK.w) :
    ∃ a : Int, cs.map (conv2 W.heap.size) = EK.enc a ∧ True := by
  obtain ⟨c, rfl⟩ : ∃ c, cs = [c] := by
    match cs, hl with
    | [c], _ => exact ⟨_, rfl⟩
  obtain ⟨i, rfl, _⟩ := dec_int Tryd.underlying41 h
  exact ⟨i, rfl, trivial⟩
theorem decKS {W : World} {H : Type} {enc : TypeId × Value → H} {c : Value} {n : Nat} {y : DataW H × List MemPlace} (hp : 0 < W.heap.size ∨ ∀ a, c ≠ .slice (some a) 0 0) (h : DataW.trod enc Tryd.prog W 0 (fun _ => true) true n T.sl_api_CellKind [c] = some y) :
    ∃ s : Sl, conv2 W.heap.size c = s.v ∧ ∃ l, KR (absHeap2 W) s.v l := by
  obtain ⟨v, l, e, h1, _⟩ := open_cell2 (E := EK) (R := fun _ => True) (e' := T.api_CellKind) Tryd.underlying22 (by kernel_rfl) (fun hp cs n y h hl => decK hp h hl) (hp.imp id fun h a e => h a (List.cons.inj e).1) h
  obtain rfl : c = v := (List.cons.inj e).1
  obtain ⟨a, cc, e2⟩ := h1.1.shape
  exact ⟨⟨a, l.length, cc⟩, e2, l, by show KR _ (Value.slice a l.length cc) l; rw [← e2]; exact h1⟩
theorem decTb {W : World} {H : Type} {enc : TypeId × Value → H} {cs : List Value} {n : Nat} {y : DataW H × List MemPlace} (hp : 0 < W.heap.size ∨ ∀ c, c ∈ cs → ∀ a, c ≠ .slice (some a) 0 0) (h : DataW.trod enc Tryd.prog W 0 (fun _ => true) true n T.api_Table cs = some y) (hl : cs.length = ETb.w) :
    ∃ a : Tb, cs.map (conv2 W.heap.size) = ETb.enc a ∧ ((∃ kl, KR (absHeap2 W) a.k.v kl) ∧ ∃ rl, KR (absHeap2 W) a.r.v rl) := by
  have ht := Tryd.underlying24
  obtain ⟨c0, c1, c2, rfl⟩ : ∃ c0 c1 c2, cs = [c0, c1, c2] := by
    match cs, hl with
    | [c0, c1, c2], _ => exact ⟨_, _, _, rfl⟩
  obtain ⟨m0, z0, h0⟩ := dec_field ht h (i := 0) rfl rfl (by kernel_rfl) rfl
  obtain ⟨m1, z1, h1⟩ := dec_field ht h (i := 1) rfl rfl (by kernel_rfl) rfl
  obtain ⟨m2, z2, h2⟩ := dec_field ht h (i := 2) rfl rfl (by kernel_rfl) rfl
  obtain ⟨s0, rfl, _⟩ := dec_int Tryd.underlying3 h0
  obtain ⟨s1, e1, r1⟩ := decKS (hp.imp id fun h a => h c1 (by simp) a) h1
  obtain ⟨s2, e2, r2⟩ := decKS (hp.imp id fun h a => h c2 (by simp) a) h2
  refine ⟨⟨s0, s1, s2⟩, ?_, r1, r2⟩
  show [conv2 _ (.int .i64 s0), conv2 _ c1, conv2 _ c2] = [.int .i64 s0, s1.v, s2.v]
  rw [e1, e2]
  rfl

def NumOk (c : Cl) : Prop := (0 ≤ c.u ∧ c.u < 18446744073709551616) ∧ (-9223372036854775808 ≤ c.i ∧ c.i < 9223372036854775808)
theorem decClN {W : World} {H : Type} {enc : TypeId × Value → H} (_ : 0 < W.heap.size) {cs : List Value} {n : Nat} {y : DataW H × List MemPlace} (h : DataW.trod enc Tryd.prog W 0 (fun _ => true) true n T.api_Cell cs = some y) (hl : cs.length = ECl.w) :
    ∃ a : Cl, cs.map (conv2 W.heap.size) = ECl.enc a ∧ NumOk a := by
  have ht := Tryd.underlying44
  obtain ⟨c0, c1, c2, c3, c4, rfl⟩ : ∃ c0 c1 c2 c3 c4, cs = [c0, c1, c2, c3, c4] := by
    match cs, hl with
    | [c0, c1, c2, c3, c4], _ => exact ⟨_, _, _, _, _, rfl⟩
  obtain ⟨m0, z0, h0⟩ := dec_field ht h (i := 0) rfl rfl (by kernel_rfl) rfl
  obtain ⟨m1, z1, h1⟩ := dec_field ht h (i := 1) rfl rfl (by kernel_rfl) rfl
  obtain ⟨m2, z2, h2⟩ := dec_field ht h (i := 2) rfl rfl (by kernel_rfl) rfl
  obtain ⟨m3, z3, h3⟩ := dec_field ht h (i := 3) rfl rfl (by kernel_rfl) rfl
  obtain ⟨m4, z4, h4⟩ := dec_field ht h (i := 4) rfl rfl (by kernel_rfl) rfl
  obtain ⟨s0, rfl, _⟩ := dec_int Tryd.underlying41 h0
  obtain ⟨s1, rfl, w1⟩ := dec_int Tryd.underlying42 h1
  obtain ⟨s2, rfl, w2⟩ := dec_int Tryd.underlying3 h2
  obtain ⟨s3, rfl, _⟩ := dec_str Tryd.underlying9 h3
  obtain ⟨s4, rfl⟩ : ∃ b, c4 = .bool b := by
    obtain ⟨b, hb, _⟩ := DataW.trod_bool Tryd.underlying4 h4
    exact ⟨b, (List.cons.inj hb).1⟩
  refine ⟨⟨s0, s1, s2, s3, s4⟩, rfl, ?_, wf_i64 w2⟩
  simp [Lit.wf, IntKind.min, IntKind.max, IntKind.signed, IntKind.bits] at w1
  show 0 ≤ s1 ∧ s1 < 18446744073709551616
  omega

theorem run_RowsSpans (W : World) (v0 : Value) (a : Tb) (h0 : v0 = .agg ⟨ETb.enc a⟩) (hR : (∃ kl, KR (absHeap2 W) a.k.v kl) ∧ ∃ rl, KR (absHeap2 W) a.r.v rl)
    (v : Value) (l : List Cl) (r : RdS ECl T.api_Cell (absHeap2 W) v l) (hn : ∀ x, x ∈ l → NumOk x) (_ : l.length ≤ maxLen) :
    ∃ k H', dCall Tryd.prog prims1 hints k F.law_RowsSpans [v0, v] (absHeap2 W) = some (.bool true, H') := by
  subst h0
  obtain ⟨⟨kl, hk⟩, rl, hr⟩ := hR
  obtain ⟨H', h⟩ := q_RowsSpans a.n a.k.v a.r.v kl rl l v (absHeap2 W) (fun _ => Nat.zero_lt_one) hk hr r.1 hn
  obtain ⟨k, h⟩ := D_run h
  exact ⟨k, _, h⟩

end Go.Proofs.YtlmhioanjmhaiaaDoor

/-
  The seat's functions as terms over the engine's combinators (a program of ours printed it).
  Conditions: none. By an AI agent.
-/
set_option linter.unusedVariables false
namespace Go.Proofs.YtlmhioanjmhaiaaDoor
open Go Eng

/-! ticketline.ticketlinelaw40.RowsWrites -/

noncomputable def s_law_RowsWrites (mg : GT) (mc : CT) (ms : ST) (P : Program) (C : CallF) (a0 : Value) (a1 : Value) (H : AHeap) (K0 : K) : Res :=
bothK (newv T.api_Table a0 H) fun t2 h1 =>
bareK (ldN 3 h1 t2) h1 fun t8 h2 =>
enterK C F.law_small [t8, a1] h2 fun t10 h3 =>
bareK (xun P .not t10) h3 fun t11 h4 =>
mc t11 (fun k1 => enterK C F.law_known [] h4 fun t12 h5 =>
k1 .ret [(4, t12)] h5) (fun k1 =>
k1 .normal [(1, a1), (2, t2)] h4) (seqK (fun tT h6 =>
bareK (ldN 3 h6 (get tT 2)) h6 fun t13 h7 =>
enterK C F.rows_Valid [t13] h7 fun t14 h8 =>
bareK (ldN 3 h8 (get tT 2)) h8 fun t15 h9 =>
enterK C F.law_valid [t15] h9 fun t16 h10 =>
bareK (xbin P .neq T.bool (.tmp 14) (.tmp 16) t14 t16) h10 fun t17 h11 =>
checkK (okV (some true) (blockOf (get tT 2)) h7 h8 h8 h9 && true) <|
mc t17 (fun k2 => k2 .ret [(4, (.bool false))] h11) (fun k2 =>
k2 .normal [(1, (get tT 1)), (2, (get tT 2))] h11) (seqK (fun tT_1 h12 =>
bareK (ldN 3 h12 (get tT_1 2)) h12 fun t18 h13 =>
enterK C F.law_valid [t18] h13 fun t19 h14 =>
bareK (xun P .not t19) h14 fun t20 h15 =>
mg t20 false (fun o3 => bareK (ldN 3 h15 (get tT_1 2)) h15 o3) h15 fun t22 h16 =>
mg t20 false (fun o4 => o4 (get tT_1 1) h16) h16 fun t23 h17 =>
mg t20 false (fun o5 => enterK C F.law_first [t22, t23] h17 o5) h17 fun t24 h18 =>
mg t20 false (fun o6 => bareK (xun P .not t24) h18 o6) h18 fun t25 h19 =>
pickK t20 (.bool true) t25 fun t26 =>
mc t26 (fun k7 => bareK (ldN 3 h19 (get tT_1 2)) h19 fun t27 h20 =>
enterK C F.law_row [t27, (get tT_1 1), (.string (mk [])), (.string (mk [])), (.int .i64 2)] h20 fun t29 h21 =>
mg t29 true (fun o8 => bareK (ldN 3 h21 (get tT_1 2)) h21 o8) h21 fun t31 h22 =>
mg t29 true (fun o9 => o9 (get tT_1 1) h22) h22 fun t32 h23 =>
mg t29 true (fun o10 => enterK C F.law_keyed [t31, t32, (.string (mk [])), (.int .i64 2)] h23 o10) h23 fun t33 h24 =>
pickK t29 t33 (.bool false) fun t34 =>
mg t34 true (fun o11 => enterK C F.law_known [] h24 o11) h24 fun t36 h25 =>
pickK t34 t36 (.bool false) fun t37 =>
k7 .ret [(4, t37)] h25) (fun k7 =>
k7 .normal [(1, (get tT_1 1)), (2, (get tT_1 2))] h19) (seqK (fun tT_2 h26 =>
bareK (fad 0 (get tT_2 2)) h26 fun t38 h27 =>
bareK (ld1 h27 t38) h27 fun t39 h28 =>
bothK (xconv P T.int T.uint8 t39 h28) fun t40 h29 =>
bothK (bldL T.uint8 [(.int .u8 0)] 1 [(0, t40)] h29) fun t41 h30 =>
bothK (xconv P T.sl_uint8 T.string t41 h30) fun t42 h31 =>
ms (fun k12 =>
bareK (lenS (get tT_2 1)) h31 fun t45 h32 =>
bareK (fad 1 (get tT_2 2)) h32 fun t46 h33 =>
bareK (ld1 h33 t46) h33 fun t47 h34 =>
bareK (lenS t47) h34 fun t48 h35 =>
bareK (xbin P .neq T.int (.tmp 45) (.tmp 48) t45 t48) h35 fun t49 h36 =>
mc t49 (fun k13 => bareK (ldN 3 h36 (get tT_2 2)) h36 fun t50 h37 =>
enterK C F.law_keyed [t50, (get tT_2 1), (.string (mk [])), (.int .i64 2)] h37 fun t52 h38 =>
bareK (xun P .not t52) h38 fun t53 h39 =>
mc t53 (fun k14 => k14 .ret [(4, (.bool false))] h39) (fun k14 =>
k14 .normal [(1, (get tT_2 1)), (2, (get tT_2 2)), (5, t42)] h39) (afterK [1, 2, 5] k13)) (fun k13 =>
enterK C F.law_joined [t42, (get tT_2 1)] h36 fun t57 h40 =>
bareK (lenT t57) h40 fun t58 h41 =>
bareK (xbin P .gtr T.int (.tmp 58) (.const (.int .i64 24)) t58 (.int .i64 24)) h41 fun t59 h42 =>
mc t59 (fun k15 => bareK (ldN 3 h42 (get tT_2 2)) h42 fun t60 h43 =>
enterK C F.law_keyed [t60, (get tT_2 1), (.string (mk [])), (.int .i64 5)] h43 fun t62 h44 =>
bareK (xun P .not t62) h44 fun t63 h45 =>
mc t63 (fun k16 => k16 .ret [(4, (.bool false))] h45) (fun k16 =>
k16 .normal [(1, (get tT_2 1)), (2, (get tT_2 2)), (5, t42)] h45) (afterK [1, 2, 5] k15)) (fun k15 =>
bareK (ldN 3 h42 (get tT_2 2)) h42 fun t65 h46 =>
enterK C F.law_joined [t42, (get tT_2 1)] h46 fun t69 h47 =>
enterK C F.law_keyed [t65, (get tT_2 1), t69, (.int .i64 0)] h47 fun t70 h48 =>
bareK (xun P .not t70) h48 fun t71 h49 =>
checkK (okV (some true) (blockOf (get tT_2 2)) h46 h47 h42 h46 && (okV (some true) none h46 h47 h46 h46 && true)) <|
mc t71 (fun k17 => k17 .ret [(4, (.bool false))] h49) (fun k17 =>
k17 .normal [(1, (get tT_2 1)), (2, (get tT_2 2)), (5, t42)] h49) (afterK [1, 2, 5] k15)) (afterK [1, 2, 5] k13)) (blkK [1, 2, 5] 0 k12)) (seqK (fun tT_3 h50 =>
bareK (lenS (get tT_3 1)) h50 fun t73 h51 =>
bareK (fad 1 (get tT_3 2)) h51 fun t74 h52 =>
bareK (ld1 h52 t74) h52 fun t75 h53 =>
bareK (lenS t75) h53 fun t76 h54 =>
bareK (fad 2 (get tT_3 2)) h54 fun t77 h55 =>
bareK (ld1 h55 t77) h55 fun t78 h56 =>
bareK (lenS t78) h56 fun t79 h57 =>
bareK (xbin P .add T.int (.tmp 76) (.tmp 79) t76 t79) h57 fun t80 h58 =>
bareK (xbin P .neq T.int (.tmp 73) (.tmp 80) t73 t80) h58 fun t81 h59 =>
mc t81 (fun k18 => bareK (ldN 3 h59 (get tT_3 2)) h59 fun t82 h60 =>
enterK C F.law_row [t82, (get tT_3 1), (.string (mk [])), (.string (mk [])), (.int .i64 2)] h60 fun t84 h61 =>
mg t84 true (fun o19 => enterK C F.law_known [] h61 o19) h61 fun t86 h62 =>
pickK t84 t86 (.bool false) fun t87 =>
k18 .ret [(4, t87)] h62) (fun k18 =>
k18 .normal [(1, (get tT_3 1)), (2, (get tT_3 2)), (5, (get tT_3 5))] h59) (seqK (fun tT_4 h63 =>
bareK (fad 1 (get tT_4 2)) h63 fun t90 h64 =>
bareK (ld1 h64 t90) h64 fun t91 h65 =>
bareK (lenS t91) h65 fun t92 h66 =>
bareK (slS T.api_Cell 5 (get tT_4 1) none (some t92) none h66) h66 fun t93 h67 =>
enterK C F.law_joined [(get tT_4 5), t93] h67 fun t94 h68 =>
bareK (fad 1 (get tT_4 2)) h68 fun t96 h69 =>
bareK (ld1 h69 t96) h69 fun t97 h70 =>
bareK (lenS t97) h70 fun t98 h71 =>
bareK (slS T.api_Cell 5 (get tT_4 1) (some t98) none none h71) h71 fun t99 h72 =>
enterK C F.law_joined [(.string (mk [])), t99] h72 fun t100 h73 =>
checkK (okV (some true) none h67 h68 h68 h68 && (okV (some true) none h67 h68 h68 h69 && (okV (some true) (blockOf t96) h67 h68 h69 h70 && (okV (some true) none h67 h68 h70 h71 && (okV (some true) (blockOf (get tT_4 1)) h67 h68 h71 h72 && true))))) <|
bareK (lenT t94) h73 fun t102 h74 =>
bareK (xbin P .gtr T.int (.tmp 102) (.const (.int .i64 24)) t102 (.int .i64 24)) h74 fun t103 h75 =>
mg t103 false (fun o20 => o20 t100 h75) h75 fun t105 h76 =>
mg t103 false (fun o21 => bareK (lenT t105) h76 o21) h76 fun t106 h77 =>
mg t103 false (fun o22 => bareK (xbin P .gtr T.int (.tmp 106) (.const (.int .i64 40)) t106 (.int .i64 40)) h77 o22) h77 fun t107 h78 =>
pickK t103 (.bool true) t107 fun t108 =>
mc t108 (fun k23 => bareK (ldN 3 h78 (get tT_4 2)) h78 fun t109 h79 =>
enterK C F.law_row [t109, (get tT_4 1), (.string (mk [])), (.string (mk [])), (.int .i64 5)] h79 fun t111 h80 =>
mg t111 true (fun o24 => enterK C F.law_known [] h80 o24) h80 fun t113 h81 =>
pickK t111 t113 (.bool false) fun t114 =>
k23 .ret [(4, t114)] h81) (fun k23 =>
k23 .normal [(1, (get tT_4 1)), (2, (get tT_4 2)), (6, t94), (7, t100)] h78) (seqK (fun tT_5 h82 =>
bareK (ldN 3 h82 (get tT_5 2)) h82 fun t115 h83 =>
enterK C F.law_row [t115, (get tT_5 1), (get tT_5 6), (get tT_5 7), (.int .i64 0)] h83 fun t119 h84 =>
mg t119 true (fun o25 => bareK (ldN 3 h84 (get tT_5 2)) h84 o25) h84 fun t121 h85 =>
mg t119 true (fun o26 => o26 (get tT_5 6) h85) h85 fun t122 h86 =>
mg t119 true (fun o27 => o27 (get tT_5 7) h86) h86 fun t123 h87 =>
mg t119 true (fun o28 => o28 (get tT_5 1) h87) h87 fun t124 h88 =>
mg t119 true (fun o29 => enterK C F.law_read [t121, t122, t123, t124, (.int .i64 0)] h88 o29) h88 fun t125 h89 =>
pickK t119 t125 (.bool false) fun t126 =>
mg t126 true (fun o30 => enterK C F.law_known [] h89 o30) h89 fun t128 h90 =>
pickK t126 t128 (.bool false) fun t129 =>
K0 .ret [(4, t129)] h90) K0)) K0)) K0)) K0)) K0)) K0)

theorem s_law_RowsWrites_eq (M : CombL) (C : CallF) (LP : LoopH) (a0 : Value) (a1 : Value) (H : AHeap) : dBodyL M Tryd.prog hints C LP F.law_RowsWrites [a0, a1] H = s_law_RowsWrites M.b.g M.c M.s Tryd.prog C a0 a1 H (endK Tryd.prog [.tmp 4]) := by kernel_rfl

end Go.Proofs.YtlmhioanjmhaiaaDoor

/-
  The equations of the seat's functions over calls in the limit (a program of ours printed it).
  Conditions: none. By an AI agent.
-/
set_option linter.unusedVariables false
namespace Go.Proofs.YtlmhioanjmhaiaaDoor
open Go Eng



theorem d_law_RowsWrites (a0 : Value) (a1 : Value) (H : AHeap) {r : Value × AHeap} (h : s_law_RowsWrites guardK condL shareL Tryd.prog CC a0 a1 H (endK Tryd.prog [.tmp 4]) = some r) : CC F.law_RowsWrites [a0, a1] H = some (tidy H r) := D_body (by kernel_rfl) ((s_law_RowsWrites_eq stdL CC limLP a0 a1 H).trans (Eq.trans (show s_law_RowsWrites stdL.b.g stdL.c stdL.s Tryd.prog CC a0 a1 H (endK Tryd.prog [.tmp 4]) = s_law_RowsWrites guardK condL shareL Tryd.prog CC a0 a1 H (endK Tryd.prog [.tmp 4]) by kernel_rfl) h))

end Go.Proofs.YtlmhioanjmhaiaaDoor

/-
  Chapter 40: the law's own read; RowsWrites.
  Conditions: none. By an AI agent.
-/
set_option maxRecDepth 10000
set_option linter.unusedSimpArgs false
set_option linter.unusedVariables false
namespace Go.Proofs.YtlmhioanjmhaiaaDoor
open Go Eng

theorem q_read (n : Int) (kv rv : Value) (kl rl : List Int) (key val : List UInt8) (l : List Cl) (w : Value) (e : Int) (H : AHeap) (ok : OkH H) (hk : KR H kv kl) (hr : KR H rv rl) (hw : Rd ECl H w l) (hkl : key.length ≤ 1000) (hvl : val.length ≤ 1000) (hl : l.length ≤ 1000) (h : readR n kl rl key val = (l, e)) :
    CC F.law_read [tbV n kv rv, .string (mk key), .string (mk val), w, .int .i64 e] H = some (.bool true, H) := by
  obtain ⟨H1, hH1⟩ : ∃ H1, H.push (.cells [.int .i64 n, kv, rv] T.api_Table true) = H1 := ⟨_, rfl⟩
  have s1 : Still H H1 := by rw [← hH1]; exact (Fr.refl H).push _
  have f1 : H1.f H.n = .cells [.int .i64 n, kv, rv] T.api_Table true := by rw [← hH1]; exact push_f_eq rfl
  obtain ⟨v', H2, m1, s2⟩ := q_Read n kv rv kl rl key val H1 (s1.ok ok) (hk.still s1) (hr.still s1) hkl hvl
  rw [h] at m1 s2
  have m1 : CC F.rows_Read [tbV n kv rv, .string (mk key), .string (mk val)] H1 = some (.tuple #[v', .int .i64 e], H2) := m1
  have s2 : SinceE ECl T.api_Cell H1 H2 v' l := s2
  have st := s1.trans s2.still
  have m2 := q_same l l v' w H2 s2.own.rd (hw.still st) hl
  rw [decide_eq_true rfl] at m2
  apply pure_of _ (d_law_read _ _ _ _ _ H) rfl
  rotate_left 2
  · simp (disch := first | with_reducible rfl | assumption | omega | rfl | (simp only [go_sem]; first | done | omega)) only [go_sem, ↓reduceIte, reduceCtorEq, Nat.reduceEqDiff, Nat.reduceAdd, Nat.reduceSub, Nat.reduceMul, Nat.reduceDiv, Nat.reduceMod, Nat.reduceLeDiff, Nat.reduceLT, Nat.reduceBEq, Int.reduceEq, Int.reduceBEq, Int.reduceBNe, Int.reduceLT, Int.reduceLE, Int.reduceAdd, Int.reduceSub, Int.reduceNeg, Int.reduceToNat, Int.reducePow, Nat.reducePow, Int.reduceMul, Int.reduceDiv, ↓s_law_read, hH1, f1, ↓enterK_eq m1, enterK_eq m1, ↓enterK_eq m2, enterK_eq m2]
    rfl
  · exact st

end Go.Proofs.YtlmhioanjmhaiaaDoor

/-
  Chapter 40: RowsWrites (printed by gen_pk.py).
  Conditions: none. By an AI agent.
-/
set_option maxRecDepth 10000
set_option linter.unusedSimpArgs false
set_option linter.unusedVariables false
namespace Go.Proofs.YtlmhioanjmhaiaaDoor
open Go Eng

theorem keyR_bad {n : Int} {kl rl : List Int} {l : List Cl} (h : keyOk n kl rl l = false) : keyR n kl rl l = ([], 2) := by unfold keyR; rw [h]; rfl
theorem rowR_bad {n : Int} {kl rl : List Int} {l : List Cl} (h : rowOk n kl rl l = false) : rowR n kl rl l = ([], [], 2) := by unfold rowR; rw [h]; rfl

theorem q_keyed' (n : Int) (kv rv : Value) (kl rl : List Int) (l : List Cl) (w : Value) (H : AHeap) (ok : OkH H) (hk : KR H kv kl) (hr : KR H rv rl) (hw : CR H w l) (hl : l.length ≤ 100) (hc : ∀ c ∈ l, CellOk c) {x : List UInt8} {e : Int} (h : keyR n kl rl l = (x, e)) :
    CC F.law_keyed [tbV n kv rv, w, .string (mk x), .int .i64 e] H = some (.bool true, H) := by
  have := q_keyed n kv rv kl rl l w H ok hk hr hw hl hc
  rw [h] at this
  exact this
theorem q_row' (n : Int) (kv rv : Value) (kl rl : List Int) (l : List Cl) (w : Value) (H : AHeap) (ok : OkH H) (hk : KR H kv kl) (hr : KR H rv rl) (hw : CR H w l) (hl : l.length ≤ 100) (hc : ∀ c ∈ l, CellOk c) {x y : List UInt8} {e : Int} (h : rowR n kl rl l = (x, y, e)) :
    CC F.law_row [tbV n kv rv, w, .string (mk x), .string (mk y), .int .i64 e] H = some (.bool true, H) := by
  have := q_row n kv rv kl rl l w H ok hk hr hw hl hc
  rw [h] at this
  exact this

set_option maxHeartbeats 4000000 in
theorem q_RowsWrites (n : Int) (kv rv : Value) (kl rl : List Int) (l : List Cl) (w : Value) (H : AHeap) (ok : OkH H) (hk : KR H kv kl) (hr : KR H rv rl) (hw : CR H w l) (hn : ∀ c ∈ l, NumOk c) :
    ∃ H', CC F.law_RowsWrites [tbV n kv rv, w] H = some (.bool true, H') := by
  obtain ⟨H1, hH1⟩ : ∃ H1, H.push (.cells [.int .i64 n, kv, rv] T.api_Table true) = H1 := ⟨_, rfl⟩
  have s1 : Still H H1 := by rw [← hH1]; exact (Fr.refl H).push _
  have f1 : H1.f H.n = .cells [.int .i64 n, kv, rv] T.api_Table true := by rw [← hH1]; exact push_f_eq rfl
  have hk1 := hk.still s1
  have hr1 := hr.still s1
  have hw1 := hw.still s1
  have ok1 := s1.ok ok
  have sm := q_small n kv rv kl.length rl.length l w H1 hk.1.lenS hr.1.lenS hk.one hr.one hw1.1
  have lk := hk.1.lenS
  have lr := hr.1.lenS
  have lw := hw.1.lenS
  cases h0 : smallP kl.length rl.length l with
  | false =>
    rw [h0] at sm
    refine any_of (H1 := H1) (d_law_RowsWrites _ _ H ?_)
    simp (disch := first | with_reducible rfl | assumption | omega | rfl | (simp only [go_sem]; first | done | omega)) only [go_sem, ↓reduceIte, reduceCtorEq, Nat.reduceEqDiff, Nat.reduceAdd, Nat.reduceSub, Nat.reduceMul, Nat.reduceDiv, Nat.reduceMod, Nat.reduceLeDiff, Nat.reduceLT, Nat.reduceBEq, Int.reduceEq, Int.reduceBEq, Int.reduceBNe, Int.reduceLT, Int.reduceLE, Int.reduceAdd, Int.reduceSub, Int.reduceNeg, Int.reduceToNat, Int.reducePow, Nat.reducePow, Int.reduceMul, Int.reduceDiv, ↓s_law_RowsWrites, hH1, f1, ↓enterK_eq sm, enterK_eq sm]
  | true =>
  rw [h0] at sm
  obtain ⟨p1, p2, p3, p4⟩ := smallP_ok h0
  have hc : ∀ c ∈ l, CellOk c := fun c hc => ⟨(hn c hc).1, (hn c hc).2, by have := p4 c hc; omega⟩
  have m0 := q_Valid n kv rv kl rl H1 hk1 hr1
  have m1 := q_valid n kv rv kl rl H1 hk1 hr1
  have m2 := q_first n kv rv kl rl l w H1 hk1 hr1 hw1.1 (by omega) (by omega)
  cases hv : validP n kl rl with
  | false =>
    rw [hv] at m0 m1
    have a1 := q_row' n kv rv kl rl l w H1 ok1 hk1 hr1 hw1 (by omega) hc (rowR_bad (by unfold rowOk; rw [hv]; rfl))
    have a2 := q_keyed' n kv rv kl rl l w H1 ok1 hk1 hr1 hw1 (by omega) hc (keyR_bad (by unfold keyOk; rw [hv]; rfl))
    refine any_of (H1 := H1) (d_law_RowsWrites _ _ H ?_)
    simp (disch := first | with_reducible rfl | assumption | omega | rfl | (simp only [go_sem]; first | done | omega)) only [go_sem, ↓reduceIte, reduceCtorEq, Nat.reduceEqDiff, Nat.reduceAdd, Nat.reduceSub, Nat.reduceMul, Nat.reduceDiv, Nat.reduceMod, Nat.reduceLeDiff, Nat.reduceLT, Nat.reduceBEq, Int.reduceEq, Int.reduceBEq, Int.reduceBNe, Int.reduceLT, Int.reduceLE, Int.reduceAdd, Int.reduceSub, Int.reduceNeg, Int.reduceToNat, Int.reducePow, Nat.reducePow, Int.reduceMul, Int.reduceDiv, ↓s_law_RowsWrites, hH1, f1, ↓enterK_eq sm, enterK_eq sm, ↓enterK_eq m0, enterK_eq m0, ↓enterK_eq m1, enterK_eq m1, bool_ne, bne_self_eq_false, ↓enterK_eq a1, enterK_eq a1, ↓enterK_eq a2, enterK_eq a2]
  | true =>
  rw [hv] at m0 m1
  have hvn := validP_n hv
  cases hf : firstP l (kl ++ rl) with
  | false =>
    rw [hf] at m2
    have r2 : areP l (kl ++ rl) = false := by
      cases h : areP l (kl ++ rl) with
      | false => rfl
      | true =>
        unfold areP at h; unfold firstP at hf
        simp only [Bool.and_eq_true, decide_eq_true_eq] at h
        rw [h.2, decide_eq_true (by omega)] at hf; simp at hf
    have r1 : areP l kl = false := by
      cases h : areP l kl with
      | false => rfl
      | true =>
        unfold areP at h; unfold firstP at hf
        simp only [Bool.and_eq_true, decide_eq_true_eq] at h
        rw [are2_app l kl rl (by omega), h.2, decide_eq_true (by simp; omega)] at hf; simp at hf
    have a1 := q_row' n kv rv kl rl l w H1 ok1 hk1 hr1 hw1 (by omega) hc (rowR_bad (by unfold rowOk; rw [hv, r2]; rfl))
    have a2 := q_keyed' n kv rv kl rl l w H1 ok1 hk1 hr1 hw1 (by omega) hc (keyR_bad (by unfold keyOk; rw [hv, r1]; rfl))
    refine any_of (H1 := H1) (d_law_RowsWrites _ _ H ?_)
    simp (disch := first | with_reducible rfl | assumption | omega | rfl | (simp only [go_sem]; first | done | omega)) only [go_sem, ↓reduceIte, reduceCtorEq, Nat.reduceEqDiff, Nat.reduceAdd, Nat.reduceSub, Nat.reduceMul, Nat.reduceDiv, Nat.reduceMod, Nat.reduceLeDiff, Nat.reduceLT, Nat.reduceBEq, Int.reduceEq, Int.reduceBEq, Int.reduceBNe, Int.reduceLT, Int.reduceLE, Int.reduceAdd, Int.reduceSub, Int.reduceNeg, Int.reduceToNat, Int.reducePow, Nat.reducePow, Int.reduceMul, Int.reduceDiv, ↓s_law_RowsWrites, hH1, f1, ↓enterK_eq sm, enterK_eq sm, ↓enterK_eq m0, enterK_eq m0, ↓enterK_eq m1, enterK_eq m1, bool_ne, bne_self_eq_false, ↓enterK_eq m2, enterK_eq m2, ↓enterK_eq a1, enterK_eq a1, ↓enterK_eq a2, enterK_eq a2]
  | true =>
  rw [hf] at m2
  unfold firstP at hf
  simp only [Bool.and_eq_true, decide_eq_true_eq, List.length_append] at hf
  obtain ⟨hll, har⟩ := hf
  have cA := x_num hvn.1
  obtain ⟨H2, hH2⟩ : ∃ H2, H1.push (.cells [.int .u8 (((n.toNat : Nat) : Int) % 256)] T.uint8 true) = H2 := ⟨_, rfl⟩
  obtain ⟨s2, sx⟩ := one_str n.toNat hH2
  have f2 : H2.f H.n = .cells [.int .i64 n, kv, rv] T.api_Table true := by
    rw [s2.f (by rw [← hH1]; exact Nat.lt_succ_self _) fun h => h]; exact f1
  have hk2 := hk1.still s2
  have hr2 := hr1.still s2
  have hw2 := hw1.still s2
  have ok2 := s2.ok ok1
  have kk := fun {x e} => q_keyed' n kv rv kl rl l w H2 ok2 hk2 hr2 hw2 (by omega) hc (x := x) (e := e)
  have rr := fun {x y e} => q_row' n kv rv kl rl l w H2 ok2 hk2 hr2 hw2 (by omega) hc (x := x) (y := y) (e := e)
  have m3 := q_joined l (by omega) hc w [by8 n.toNat] H2 hw2.1 (by simp)
  have m3 : CC F.law_joined [.string (mk [by8 n.toNat]), w] H2 = some (.string (mk (by8 n.toNat :: encs l)), H2) := m3
  refine (Classical.em ((l.length : Int) = (kl.length : Int))).elim (fun hA => ?_) fun hA => ?_
  rotate_left
  · have kb := kk (keyR_bad (by unfold keyOk areP; rw [hv, decide_eq_false (by omega)]; rfl))
    refine (Classical.em ((l.length : Int) = (kl.length : Int) + (rl.length : Int))).elim (fun hD => ?_) fun hD => ?_
    rotate_left
    · have rb := rr (rowR_bad (by unfold rowOk areP; rw [hv, decide_eq_false (by rw [List.length_append]; omega)]; rfl))
      refine any_of (H1 := H2) (d_law_RowsWrites _ _ H ?_)
      simp (maxSteps := 2000000) (disch := first | with_reducible rfl | assumption | omega | rfl | (simp only [go_sem]; first | done | omega)) only [go_sem, ↓reduceIte, reduceCtorEq, Nat.reduceEqDiff, Nat.reduceAdd, Nat.reduceSub, Nat.reduceMul, Nat.reduceDiv, Nat.reduceMod, Nat.reduceLeDiff, Nat.reduceLT, Nat.reduceBEq, Int.reduceEq, Int.reduceBEq, Int.reduceBNe, Int.reduceLT, Int.reduceLE, Int.reduceAdd, Int.reduceSub, Int.reduceNeg, Int.reduceToNat, Int.reducePow, Nat.reducePow, Int.reduceMul, Int.reduceDiv, s_law_RowsWrites, hH1, f1, ↓enterK_eq sm, enterK_eq sm, ↓enterK_eq m0, enterK_eq m0, ↓enterK_eq m1, enterK_eq m1, bool_ne, bne_self_eq_false, ↓enterK_eq m2, enterK_eq m2, f2, ↓cA, cA, hH2, sx, lw, lk, lr, hA, ↓enterK_eq kb, enterK_eq kb, hD, ↓enterK_eq rb, enterK_eq rb]
    have hD' : ((l.length : Int) = (kl.length : Int) + (rl.length : Int)) = True := by simp [hD]
    have rOk : rowOk n kl rl l = true := by unfold rowOk areP; rw [hv, har, decide_eq_true (by rw [List.length_append]; omega)]; rfl
    obtain ⟨k5, a5, r5, _⟩ := hw2.to (sz := 5) rfl (j := kl.length) (q := .i64) (by omega)
    obtain ⟨k6, a6, r6, _⟩ := hw2.from (sz := 5) rfl (i := kl.length) (q := .i64) (by omega)
    have j5 := q_joined (l.take kl.length) (by simp; omega) (fun c h => hc c (List.mem_of_mem_take h)) k5 [by8 n.toNat] H2 r5.1 (by simp)
    have j5 : CC F.law_joined [.string (mk [by8 n.toNat]), k5] H2 = some (.string (mk (keyB n kl l)), H2) := j5
    have j6 := q_joined (l.drop kl.length) (by simp; omega) (fun c h => hc c (List.mem_of_mem_drop h)) k6 [] H2 r6.1 (by simp)
    have j6 : CC F.law_joined [.string (mk []), k6] H2 = some (.string (mk (valB kl l)), H2) := j6
    have eR : rowR n kl rl l = if 24 < (keyB n kl l).length ∨ 40 < (valB kl l).length then ([], [], 5) else (keyB n kl l, valB kl l, 0) := by unfold rowR; rw [if_pos rOk]
    generalize keyB n kl l = x at j5 eR
    generalize valB kl l = y at j6 eR
    refine (Classical.em (24 < (x.length : Int))).elim (fun hE => ?_) fun hE => ?_
    · have rb := rr (x := []) (y := []) (e := 5) (by rw [eR, if_pos (Or.inl (by omega))])
      refine any_of (H1 := H2) (d_law_RowsWrites _ _ H ?_)
      simp (maxSteps := 2000000) (disch := first | with_reducible rfl | assumption | omega | rfl | (simp only [go_sem]; first | done | omega)) only [go_sem, ↓reduceIte, reduceCtorEq, Nat.reduceEqDiff, Nat.reduceAdd, Nat.reduceSub, Nat.reduceMul, Nat.reduceDiv, Nat.reduceMod, Nat.reduceLeDiff, Nat.reduceLT, Nat.reduceBEq, Int.reduceEq, Int.reduceBEq, Int.reduceBNe, Int.reduceLT, Int.reduceLE, Int.reduceAdd, Int.reduceSub, Int.reduceNeg, Int.reduceToNat, Int.reducePow, Nat.reducePow, Int.reduceMul, Int.reduceDiv, s_law_RowsWrites, hH1, f1, ↓enterK_eq sm, enterK_eq sm, ↓enterK_eq m0, enterK_eq m0, ↓enterK_eq m1, enterK_eq m1, bool_ne, bne_self_eq_false, ↓enterK_eq m2, enterK_eq m2, f2, ↓cA, cA, hH2, sx, lw, lk, lr, hA, ↓enterK_eq kb, enterK_eq kb, hD', a5, ↓enterK_eq j5, enterK_eq j5, a6, ↓enterK_eq j6, enterK_eq j6, bl_mk, hE, ↓enterK_eq rb, enterK_eq rb]
    refine (Classical.em (40 < (y.length : Int))).elim (fun hG => ?_) fun hG => ?_
    · have rb := rr (x := []) (y := []) (e := 5) (by rw [eR, if_pos (Or.inr (by omega))])
      refine any_of (H1 := H2) (d_law_RowsWrites _ _ H ?_)
      simp (maxSteps := 2000000) (disch := first | with_reducible rfl | assumption | omega | rfl | (simp only [go_sem]; first | done | omega)) only [go_sem, ↓reduceIte, reduceCtorEq, Nat.reduceEqDiff, Nat.reduceAdd, Nat.reduceSub, Nat.reduceMul, Nat.reduceDiv, Nat.reduceMod, Nat.reduceLeDiff, Nat.reduceLT, Nat.reduceBEq, Int.reduceEq, Int.reduceBEq, Int.reduceBNe, Int.reduceLT, Int.reduceLE, Int.reduceAdd, Int.reduceSub, Int.reduceNeg, Int.reduceToNat, Int.reducePow, Nat.reducePow, Int.reduceMul, Int.reduceDiv, s_law_RowsWrites, hH1, f1, ↓enterK_eq sm, enterK_eq sm, ↓enterK_eq m0, enterK_eq m0, ↓enterK_eq m1, enterK_eq m1, bool_ne, bne_self_eq_false, ↓enterK_eq m2, enterK_eq m2, f2, ↓cA, cA, hH2, sx, lw, lk, lr, hA, ↓enterK_eq kb, enterK_eq kb, hD', a5, ↓enterK_eq j5, enterK_eq j5, a6, ↓enterK_eq j6, enterK_eq j6, bl_mk, hE, hG, ↓enterK_eq rb, enterK_eq rb]
    · have eR : rowR n kl rl l = (x, y, 0) := by rw [eR, if_neg (by omega)]
      have rb := rr eR
      have rd := q_read n kv rv kl rl x y l w 0 H2 ok2 hk2 hr2 hw2.1 (by omega) (by omega) (by omega) (readR_row hc eR)
      refine any_of (H1 := H2) (d_law_RowsWrites _ _ H ?_)
      simp (maxSteps := 2000000) (disch := first | with_reducible rfl | assumption | omega | rfl | (simp only [go_sem]; first | done | omega)) only [go_sem, ↓reduceIte, reduceCtorEq, Nat.reduceEqDiff, Nat.reduceAdd, Nat.reduceSub, Nat.reduceMul, Nat.reduceDiv, Nat.reduceMod, Nat.reduceLeDiff, Nat.reduceLT, Nat.reduceBEq, Int.reduceEq, Int.reduceBEq, Int.reduceBNe, Int.reduceLT, Int.reduceLE, Int.reduceAdd, Int.reduceSub, Int.reduceNeg, Int.reduceToNat, Int.reducePow, Nat.reducePow, Int.reduceMul, Int.reduceDiv, s_law_RowsWrites, hH1, f1, ↓enterK_eq sm, enterK_eq sm, ↓enterK_eq m0, enterK_eq m0, ↓enterK_eq m1, enterK_eq m1, bool_ne, bne_self_eq_false, ↓enterK_eq m2, enterK_eq m2, f2, ↓cA, cA, hH2, sx, lw, lk, lr, hA, ↓enterK_eq kb, enterK_eq kb, hD', a5, ↓enterK_eq j5, enterK_eq j5, a6, ↓enterK_eq j6, enterK_eq j6, bl_mk, hE, hG, ↓enterK_eq rb, enterK_eq rb, ↓enterK_eq rd, enterK_eq rd]
  have hA' : ((l.length : Int) = (kl.length : Int)) = True := by simp [hA]
  have kOk : keyOk n kl rl l = true := by unfold keyOk areP; rw [hv, decide_eq_true (by omega), ← are2_app l kl rl (by omega), har]; rfl
  obtain ⟨jx, hjx⟩ : ∃ jx, by8 n.toNat :: encs l = jx := ⟨_, rfl⟩
  rw [hjx] at m3
  refine (Classical.em (24 < (jx.length : Int))).elim (fun hB => ?_) fun hB => ?_
  · have kb := kk (x := []) (e := 5) (by unfold keyR; rw [if_pos kOk, hjx, if_pos (by omega)])
    refine (Classical.em ((l.length : Int) = (kl.length : Int) + (rl.length : Int))).elim (fun hD => ?_) fun hD => ?_
    rotate_left
    · have rb := rr (rowR_bad (by unfold rowOk areP; rw [hv, decide_eq_false (by rw [List.length_append]; omega)]; rfl))
      refine any_of (H1 := H2) (d_law_RowsWrites _ _ H ?_)
      simp (maxSteps := 2000000) (disch := first | with_reducible rfl | assumption | omega | rfl | (simp only [go_sem]; first | done | omega)) only [go_sem, ↓reduceIte, reduceCtorEq, Nat.reduceEqDiff, Nat.reduceAdd, Nat.reduceSub, Nat.reduceMul, Nat.reduceDiv, Nat.reduceMod, Nat.reduceLeDiff, Nat.reduceLT, Nat.reduceBEq, Int.reduceEq, Int.reduceBEq, Int.reduceBNe, Int.reduceLT, Int.reduceLE, Int.reduceAdd, Int.reduceSub, Int.reduceNeg, Int.reduceToNat, Int.reducePow, Nat.reducePow, Int.reduceMul, Int.reduceDiv, s_law_RowsWrites, hH1, f1, ↓enterK_eq sm, enterK_eq sm, ↓enterK_eq m0, enterK_eq m0, ↓enterK_eq m1, enterK_eq m1, bool_ne, bne_self_eq_false, ↓enterK_eq m2, enterK_eq m2, f2, ↓cA, cA, hH2, sx, lw, lk, lr, hA', ↓enterK_eq m3, enterK_eq m3, bl_mk, hB, ↓enterK_eq kb, enterK_eq kb, hD, ↓enterK_eq rb, enterK_eq rb]
    have hD' : ((l.length : Int) = (kl.length : Int) + (rl.length : Int)) = True := by simp [hD]
    have rOk : rowOk n kl rl l = true := by unfold rowOk areP; rw [hv, har, decide_eq_true (by rw [List.length_append]; omega)]; rfl
    obtain ⟨k5, a5, r5, _⟩ := hw2.to (sz := 5) rfl (j := kl.length) (q := .i64) (by omega)
    obtain ⟨k6, a6, r6, _⟩ := hw2.from (sz := 5) rfl (i := kl.length) (q := .i64) (by omega)
    have j5 := q_joined (l.take kl.length) (by simp; omega) (fun c h => hc c (List.mem_of_mem_take h)) k5 [by8 n.toNat] H2 r5.1 (by simp)
    have j5 : CC F.law_joined [.string (mk [by8 n.toNat]), k5] H2 = some (.string (mk (keyB n kl l)), H2) := j5
    have j6 := q_joined (l.drop kl.length) (by simp; omega) (fun c h => hc c (List.mem_of_mem_drop h)) k6 [] H2 r6.1 (by simp)
    have j6 : CC F.law_joined [.string (mk []), k6] H2 = some (.string (mk (valB kl l)), H2) := j6
    have eR : rowR n kl rl l = if 24 < (keyB n kl l).length ∨ 40 < (valB kl l).length then ([], [], 5) else (keyB n kl l, valB kl l, 0) := by unfold rowR; rw [if_pos rOk]
    generalize keyB n kl l = x at j5 eR
    generalize valB kl l = y at j6 eR
    refine (Classical.em (24 < (x.length : Int))).elim (fun hE => ?_) fun hE => ?_
    · have rb := rr (x := []) (y := []) (e := 5) (by rw [eR, if_pos (Or.inl (by omega))])
      refine any_of (H1 := H2) (d_law_RowsWrites _ _ H ?_)
      simp (maxSteps := 2000000) (disch := first | with_reducible rfl | assumption | omega | rfl | (simp only [go_sem]; first | done | omega)) only [go_sem, ↓reduceIte, reduceCtorEq, Nat.reduceEqDiff, Nat.reduceAdd, Nat.reduceSub, Nat.reduceMul, Nat.reduceDiv, Nat.reduceMod, Nat.reduceLeDiff, Nat.reduceLT, Nat.reduceBEq, Int.reduceEq, Int.reduceBEq, Int.reduceBNe, Int.reduceLT, Int.reduceLE, Int.reduceAdd, Int.reduceSub, Int.reduceNeg, Int.reduceToNat, Int.reducePow, Nat.reducePow, Int.reduceMul, Int.reduceDiv, s_law_RowsWrites, hH1, f1, ↓enterK_eq sm, enterK_eq sm, ↓enterK_eq m0, enterK_eq m0, ↓enterK_eq m1, enterK_eq m1, bool_ne, bne_self_eq_false, ↓enterK_eq m2, enterK_eq m2, f2, ↓cA, cA, hH2, sx, lw, lk, lr, hA', ↓enterK_eq m3, enterK_eq m3, bl_mk, hB, ↓enterK_eq kb, enterK_eq kb, hD', a5, ↓enterK_eq j5, enterK_eq j5, a6, ↓enterK_eq j6, enterK_eq j6, bl_mk, hE, ↓enterK_eq rb, enterK_eq rb]
    refine (Classical.em (40 < (y.length : Int))).elim (fun hG => ?_) fun hG => ?_
    · have rb := rr (x := []) (y := []) (e := 5) (by rw [eR, if_pos (Or.inr (by omega))])
      refine any_of (H1 := H2) (d_law_RowsWrites _ _ H ?_)
      simp (maxSteps := 2000000) (disch := first | with_reducible rfl | assumption | omega | rfl | (simp only [go_sem]; first | done | omega)) only [go_sem, ↓reduceIte, reduceCtorEq, Nat.reduceEqDiff, Nat.reduceAdd, Nat.reduceSub, Nat.reduceMul, Nat.reduceDiv, Nat.reduceMod, Nat.reduceLeDiff, Nat.reduceLT, Nat.reduceBEq, Int.reduceEq, Int.reduceBEq, Int.reduceBNe, Int.reduceLT, Int.reduceLE, Int.reduceAdd, Int.reduceSub, Int.reduceNeg, Int.reduceToNat, Int.reducePow, Nat.reducePow, Int.reduceMul, Int.reduceDiv, s_law_RowsWrites, hH1, f1, ↓enterK_eq sm, enterK_eq sm, ↓enterK_eq m0, enterK_eq m0, ↓enterK_eq m1, enterK_eq m1, bool_ne, bne_self_eq_false, ↓enterK_eq m2, enterK_eq m2, f2, ↓cA, cA, hH2, sx, lw, lk, lr, hA', ↓enterK_eq m3, enterK_eq m3, bl_mk, hB, ↓enterK_eq kb, enterK_eq kb, hD', a5, ↓enterK_eq j5, enterK_eq j5, a6, ↓enterK_eq j6, enterK_eq j6, bl_mk, hE, hG, ↓enterK_eq rb, enterK_eq rb]
    · have eR : rowR n kl rl l = (x, y, 0) := by rw [eR, if_neg (by omega)]
      have rb := rr eR
      have rd := q_read n kv rv kl rl x y l w 0 H2 ok2 hk2 hr2 hw2.1 (by omega) (by omega) (by omega) (readR_row hc eR)
      refine any_of (H1 := H2) (d_law_RowsWrites _ _ H ?_)
      simp (maxSteps := 2000000) (disch := first | with_reducible rfl | assumption | omega | rfl | (simp only [go_sem]; first | done | omega)) only [go_sem, ↓reduceIte, reduceCtorEq, Nat.reduceEqDiff, Nat.reduceAdd, Nat.reduceSub, Nat.reduceMul, Nat.reduceDiv, Nat.reduceMod, Nat.reduceLeDiff, Nat.reduceLT, Nat.reduceBEq, Int.reduceEq, Int.reduceBEq, Int.reduceBNe, Int.reduceLT, Int.reduceLE, Int.reduceAdd, Int.reduceSub, Int.reduceNeg, Int.reduceToNat, Int.reducePow, Nat.reducePow, Int.reduceMul, Int.reduceDiv, s_law_RowsWrites, hH1, f1, ↓enterK_eq sm, enterK_eq sm, ↓enterK_eq m0, enterK_eq m0, ↓enterK_eq m1, enterK_eq m1, bool_ne, bne_self_eq_false, ↓enterK_eq m2, enterK_eq m2, f2, ↓cA, cA, hH2, sx, lw, lk, lr, hA', ↓enterK_eq m3, enterK_eq m3, bl_mk, hB, ↓enterK_eq kb, enterK_eq kb, hD', a5, ↓enterK_eq j5, enterK_eq j5, a6, ↓enterK_eq j6, enterK_eq j6, bl_mk, hE, hG, ↓enterK_eq rb, enterK_eq rb, ↓enterK_eq rd, enterK_eq rd]
  · have kb := kk (x := jx) (e := 0) (by unfold keyR; rw [if_pos kOk, hjx, if_neg (by omega)])
    refine (Classical.em ((l.length : Int) = (kl.length : Int) + (rl.length : Int))).elim (fun hD => ?_) fun hD => ?_
    rotate_left
    · have rb := rr (rowR_bad (by unfold rowOk areP; rw [hv, decide_eq_false (by rw [List.length_append]; omega)]; rfl))
      refine any_of (H1 := H2) (d_law_RowsWrites _ _ H ?_)
      simp (maxSteps := 2000000) (disch := first | with_reducible rfl | assumption | omega | rfl | (simp only [go_sem]; first | done | omega)) only [go_sem, ↓reduceIte, reduceCtorEq, Nat.reduceEqDiff, Nat.reduceAdd, Nat.reduceSub, Nat.reduceMul, Nat.reduceDiv, Nat.reduceMod, Nat.reduceLeDiff, Nat.reduceLT, Nat.reduceBEq, Int.reduceEq, Int.reduceBEq, Int.reduceBNe, Int.reduceLT, Int.reduceLE, Int.reduceAdd, Int.reduceSub, Int.reduceNeg, Int.reduceToNat, Int.reducePow, Nat.reducePow, Int.reduceMul, Int.reduceDiv, s_law_RowsWrites, hH1, f1, ↓enterK_eq sm, enterK_eq sm, ↓enterK_eq m0, enterK_eq m0, ↓enterK_eq m1, enterK_eq m1, bool_ne, bne_self_eq_false, ↓enterK_eq m2, enterK_eq m2, f2, ↓cA, cA, hH2, sx, lw, lk, lr, hA', ↓enterK_eq m3, enterK_eq m3, bl_mk, hB, ↓enterK_eq kb, enterK_eq kb, hD, ↓enterK_eq rb, enterK_eq rb]
    have hD' : ((l.length : Int) = (kl.length : Int) + (rl.length : Int)) = True := by simp [hD]
    have rOk : rowOk n kl rl l = true := by unfold rowOk areP; rw [hv, har, decide_eq_true (by rw [List.length_append]; omega)]; rfl
    obtain ⟨k5, a5, r5, _⟩ := hw2.to (sz := 5) rfl (j := kl.length) (q := .i64) (by omega)
    obtain ⟨k6, a6, r6, _⟩ := hw2.from (sz := 5) rfl (i := kl.length) (q := .i64) (by omega)
    have j5 := q_joined (l.take kl.length) (by simp; omega) (fun c h => hc c (List.mem_of_mem_take h)) k5 [by8 n.toNat] H2 r5.1 (by simp)
    have j5 : CC F.law_joined [.string (mk [by8 n.toNat]), k5] H2 = some (.string (mk (keyB n kl l)), H2) := j5
    have j6 := q_joined (l.drop kl.length) (by simp; omega) (fun c h => hc c (List.mem_of_mem_drop h)) k6 [] H2 r6.1 (by simp)
    have j6 : CC F.law_joined [.string (mk []), k6] H2 = some (.string (mk (valB kl l)), H2) := j6
    have eR : rowR n kl rl l = if 24 < (keyB n kl l).length ∨ 40 < (valB kl l).length then ([], [], 5) else (keyB n kl l, valB kl l, 0) := by unfold rowR; rw [if_pos rOk]
    generalize keyB n kl l = x at j5 eR
    generalize valB kl l = y at j6 eR
    refine (Classical.em (24 < (x.length : Int))).elim (fun hE => ?_) fun hE => ?_
    · have rb := rr (x := []) (y := []) (e := 5) (by rw [eR, if_pos (Or.inl (by omega))])
      refine any_of (H1 := H2) (d_law_RowsWrites _ _ H ?_)
      simp (maxSteps := 2000000) (disch := first | with_reducible rfl | assumption | omega | rfl | (simp only [go_sem]; first | done | omega)) only [go_sem, ↓reduceIte, reduceCtorEq, Nat.reduceEqDiff, Nat.reduceAdd, Nat.reduceSub, Nat.reduceMul, Nat.reduceDiv, Nat.reduceMod, Nat.reduceLeDiff, Nat.reduceLT, Nat.reduceBEq, Int.reduceEq, Int.reduceBEq, Int.reduceBNe, Int.reduceLT, Int.reduceLE, Int.reduceAdd, Int.reduceSub, Int.reduceNeg, Int.reduceToNat, Int.reducePow, Nat.reducePow, Int.reduceMul, Int.reduceDiv, s_law_RowsWrites, hH1, f1, ↓enterK_eq sm, enterK_eq sm, ↓enterK_eq m0, enterK_eq m0, ↓enterK_eq m1, enterK_eq m1, bool_ne, bne_self_eq_false, ↓enterK_eq m2, enterK_eq m2, f2, ↓cA, cA, hH2, sx, lw, lk, lr, hA', ↓enterK_eq m3, enterK_eq m3, bl_mk, hB, ↓enterK_eq kb, enterK_eq kb, hD', a5, ↓enterK_eq j5, enterK_eq j5, a6, ↓enterK_eq j6, enterK_eq j6, bl_mk, hE, ↓enterK_eq rb, enterK_eq rb]
    refine (Classical.em (40 < (y.length : Int))).elim (fun hG => ?_) fun hG => ?_
    · have rb := rr (x := []) (y := []) (e := 5) (by rw [eR, if_pos (Or.inr (by omega))])
      refine any_of (H1 := H2) (d_law_RowsWrites _ _ H ?_)
      simp (maxSteps := 2000000) (disch := first | with_reducible rfl | assumption | omega | rfl | (simp only [go_sem]; first | done | omega)) only [go_sem, ↓reduceIte, reduceCtorEq, Nat.reduceEqDiff, Nat.reduceAdd, Nat.reduceSub, Nat.reduceMul, Nat.reduceDiv, Nat.reduceMod, Nat.reduceLeDiff, Nat.reduceLT, Nat.reduceBEq, Int.reduceEq, Int.reduceBEq, Int.reduceBNe, Int.reduceLT, Int.reduceLE, Int.reduceAdd, Int.reduceSub, Int.reduceNeg, Int.reduceToNat, Int.reducePow, Nat.reducePow, Int.reduceMul, Int.reduceDiv, s_law_RowsWrites, hH1, f1, ↓enterK_eq sm, enterK_eq sm, ↓enterK_eq m0, enterK_eq m0, ↓enterK_eq m1, enterK_eq m1, bool_ne, bne_self_eq_false, ↓enterK_eq m2, enterK_eq m2, f2, ↓cA, cA, hH2, sx, lw, lk, lr, hA', ↓enterK_eq m3, enterK_eq m3, bl_mk, hB, ↓enterK_eq kb, enterK_eq kb, hD', a5, ↓enterK_eq j5, enterK_eq j5, a6, ↓enterK_eq j6, enterK_eq j6, bl_mk, hE, hG, ↓enterK_eq rb, enterK_eq rb]
    · have eR : rowR n kl rl l = (x, y, 0) := by rw [eR, if_neg (by omega)]
      have rb := rr eR
      have rd := q_read n kv rv kl rl x y l w 0 H2 ok2 hk2 hr2 hw2.1 (by omega) (by omega) (by omega) (readR_row hc eR)
      refine any_of (H1 := H2) (d_law_RowsWrites _ _ H ?_)
      simp (maxSteps := 2000000) (disch := first | with_reducible rfl | assumption | omega | rfl | (simp only [go_sem]; first | done | omega)) only [go_sem, ↓reduceIte, reduceCtorEq, Nat.reduceEqDiff, Nat.reduceAdd, Nat.reduceSub, Nat.reduceMul, Nat.reduceDiv, Nat.reduceMod, Nat.reduceLeDiff, Nat.reduceLT, Nat.reduceBEq, Int.reduceEq, Int.reduceBEq, Int.reduceBNe, Int.reduceLT, Int.reduceLE, Int.reduceAdd, Int.reduceSub, Int.reduceNeg, Int.reduceToNat, Int.reducePow, Nat.reducePow, Int.reduceMul, Int.reduceDiv, s_law_RowsWrites, hH1, f1, ↓enterK_eq sm, enterK_eq sm, ↓enterK_eq m0, enterK_eq m0, ↓enterK_eq m1, enterK_eq m1, bool_ne, bne_self_eq_false, ↓enterK_eq m2, enterK_eq m2, f2, ↓cA, cA, hH2, sx, lw, lk, lr, hA', ↓enterK_eq m3, enterK_eq m3, bl_mk, hB, ↓enterK_eq kb, enterK_eq kb, hD', a5, ↓enterK_eq j5, enterK_eq j5, a6, ↓enterK_eq j6, enterK_eq j6, bl_mk, hE, hG, ↓enterK_eq rb, enterK_eq rb, ↓enterK_eq rd, enterK_eq rd]

theorem run_RowsWrites (W : World) (v0 : Value) (a : Tb) (h0 : v0 = .agg ⟨ETb.enc a⟩) (hR : (∃ kl, KR (absHeap2 W) a.k.v kl) ∧ ∃ rl, KR (absHeap2 W) a.r.v rl)
    (v : Value) (l : List Cl) (r : RdS ECl T.api_Cell (absHeap2 W) v l) (hn : ∀ x, x ∈ l → NumOk x) (_ : l.length ≤ maxLen) :
    ∃ k H', dCall Tryd.prog prims1 hints k F.law_RowsWrites [v0, v] (absHeap2 W) = some (.bool true, H') := by
  subst h0
  obtain ⟨⟨kl, hk⟩, rl, hr⟩ := hR
  obtain ⟨H', h⟩ := q_RowsWrites a.n a.k.v a.r.v kl rl l v (absHeap2 W) (fun _ => Nat.zero_lt_one) hk hr r hn
  obtain ⟨k, h⟩ := D_run h
  exact ⟨k, _, h⟩

end Go.Proofs.YtlmhioanjmhaiaaDoor

/-
  The law RowsWrites: for every input it returns true, and its input reads as it did; and its card.
  Conditions: none. By an AI agent.
-/
namespace Go.Proofs.YtlmhioanjmhaiaaDoor.rowsWrites
open Go Go.ChangeShapes Go.WideShapes Go.ChangeAt Go.RowKit Go.Shelf Go.Lib
open Go.ChangeMaps (open_string shut_string)
set_option linter.unusedVariables false
theorem own : ownKnob Tryd.prog.godebug = none := by kernel_rfl
theorem laidOut : laidOutB Tryd.prog = true := by kernel_rfl
theorem glob (W : World) (hsh : W.ShapedOpen Tryd.prog) : Eng.Glob W.heap.size W := fun g hg => by
  have hg : g = 0 := by simpa [Eng.globs] using hg
  subst hg
  obtain ⟨m, hm⟩ := Go.Proofs.cell_of_shapedOpen_int (zero := #[.int .i64 0]) (t := 3) hsh (of_decide_eq_true (by kernel_rfl)) (by kernel_rfl) rfl (by kernel_rfl) (by kernel_rfl) Tryd.underlying3
  obtain ⟨cs, e, fr, h1, _, _⟩ := Eng.cell_abs hm
  exact ⟨(Array.getElem?_eq_some_iff.1 h1).1, m, hm⟩
set_option maxRecDepth 100000 in
theorem lifted (os : Os) (started : os.Started) (H : Type) (enc : TypeId × Value → H) :
    ReturnsInHanded {} Tryd.checked os 6 .any (fun w args => (Rows.rowsWritesSpec.pre enc Tryd.prog Tryd.f6 [] false w args ∧ laidMetH Tryd.prog Rows.rowsWritesRow.laid w) ∧ sizedMet enc Tryd.prog Tryd.f6 (OpenSpec.ofChange Rows.rowsWritesSpec) false w args)
      (Rows.rowsWritesSpec.post enc Tryd.prog Tryd.f6 false true false false) := by
  refine Eng.wrapX (C := Tryd.checked) (X := fun w _ => laidMetH Tryd.prog Rows.rowsWritesRow.laid w) (fun _ _ _ hh h => h.of_heap hh) own started (by kernel_rfl) Tryd.func6
    (ChangeSpec.witness_shaped (enc := enc) (C := Tryd.checked) (os := os) (X := fun w _ => laidMetH Tryd.prog Rows.rowsWritesRow.laid w) false (World.laidAll Tryd.prog os Rows.rowsWritesRow.laid) #[.agg #[(.int .i64 0), (.slice none 0 0), (.slice none 0 0)], .slice none 0 0] 8 (World.laidAll_os _ _ _)
      (World.shaped_of_ZipB (by kernel_rfl) (by kernel_rfl)) (by kernel_rfl) (by kernel_rfl) (by kernel_rfl)
      (by rw [MakeChecks.laidMetH_plain _ _ _ (by kernel_rfl)]; exact laidMet_laidAll _ (by kernel_rfl) (by kernel_rfl))) ?_
  intro W base args ds gs before hval0 hW hsz0 hsh
  have hsz : (DataW.weightsEach Tryd.prog (Tryd.f6.params.toList ++ Rows.rowsWritesSpec.plain.varTypes Tryd.prog) (ds ++ gs)).all (· ≤ reachBytes) = true := hsz0
  have hval : ∀ (j : Nat) t v, Tryd.f6.params[j]? = some t → args[j]? = some v → Value.okWide Tryd.prog W .any base t v := hval0
  have hW' := hW
  obtain ⟨p, q, hA0, hV, rfl, hfz, hnd⟩ := hW
  have hA : DataW.TrodAll enc Tryd.prog W 0 (fun _ => true) true Tryd.f6.params.toList args.toList ds p := hA0
  rw [Tryd.params6] at hA hval hsz
  obtain ⟨v0, vs0, d0, ds0, p0, q0, hargs, rfl, rfl, h0, r0⟩ := trodAll_cons hA
  obtain ⟨v1, vs1, d1, ds1, p1, q1, rfl, rfl, rfl, h1, r1⟩ := trodAll_cons r0
  obtain ⟨rfl, rfl, rfl⟩ := trodAll_nil r1
  obtain rfl : args = #[v0, v1] := by cases args; simp_all
  obtain ⟨rfl, rfl⟩ := trodVars_none hV
  have k0 := h0
  have lt0 : ∀ x ∈ p0, x.block < W.heap.size := by obtain ⟨m, hm⟩ := k0; exact DataW.trod_lt m _ _ _ hm
  obtain ⟨l0, rd0, all0⟩ := Eng.open_agg2 (t := 24) Tryd.underlying24 (by kernel_rfl) (fun cs n y hp h hl => decTb hp h hl) (hval 0 24 v0 rfl rfl) k0
  have k1 := h1
  have lt1 : ∀ x ∈ p1, x.block < W.heap.size := by obtain ⟨m, hm⟩ := k1; exact DataW.trod_lt m _ _ _ hm
  obtain ⟨l1, rd1, all1, len1⟩ := Eng.open_rd2 (t := 25) (e' := 44) Tryd.underlying25 (by kernel_rfl) (fun hp cs n y h hl => decClN hp h hl) (hval 1 25 v1 rfl rfl) k1
  refine (Eng.law_calls2 (args := #[v0, v1]) prims1_ok mixed (glob W hsh) (run_RowsWrites W (Eng.convA2 W.heap.size v0) l0 rd0 all0 (Eng.convA2 W.heap.size v1) l1 rd1 all1 len1)).mono fun e W' ⟨he, bel⟩ => ?_
  subst he
  exact ⟨_, rfl, _, _, _, [], _, [], hW', trodAll_mk1 (shut_bool Tryd.underlying4 _), (trodAll_cons_mk (Below.trod laidOut (by kernel_rfl) (of_decide_eq_true (by kernel_rfl)) k0 bel lt0) (trodAll_cons_mk (Below.trod laidOut (by kernel_rfl) (of_decide_eq_true (by kernel_rfl)) k1 bel lt1) trodAll_mk0)), rfl, bel.frame _, fun h => by cases h⟩

theorem over : Rows.rowsWritesRow.holds Tryd.pinned (OpenSpec.ofChange Rows.rowsWritesSpec) :=
  OpenClaim.holds_of_wide 6 Tryd.f6 rfl rfl rfl rfl rfl rfl rfl ⟨rfl, rfl, rfl, rfl, rfl⟩ rfl rfl rfl rfl rfl (by kernel_rfl) Tryd.func6 (by kernel_rfl)
    (of_decide_eq_true (by kernel_rfl)) (by unfold Func.isWrapper; first | (rw [if_pos (by decide +kernel)]; kernel_rfl) | (rw [if_neg (by decide +kernel)]; exact ⟨rfl, rfl⟩))
    (fun os started H enc _ => lifted os started H enc)
theorem proved : Rows.RowsWritesCardSaid :=
  Claim7.holds_tied_plain_at .later [] [.data, .pinned] true (true, "aaed328d676b259d80c0dea683c8657178ef62b17664fbaf17bcdc3b4d96b0a3") false over (fun _ h => by cases h) (by kernel_rfl) (fun _ h => by cases h) rowsWrites_row_tie rfl ⟨rfl, rfl⟩ (by kernel_rfl) rfl
    (fun f fn hf hfn => by
      obtain rfl : f = 6 := Option.some.inj ((show Tryd.prog.funcNamed "ticketline/ticketlinelaw40.RowsWrites" = some 6 by kernel_rfl).symm.trans hf) |>.symm
      obtain rfl : fn = Tryd.f6 := (Option.some.inj (Tryd.func6.symm.trans hfn)).symm
      exact ⟨by kernel_rfl, fun j t ht => by
        rw [Tryd.params6] at ht
        have hm : t ∈ [24, 25] := by simpa using Array.mem_of_getElem? ht
        have hall : ([24, 25].all fun u => !Tryd.prog.wantsStandIn u) = true := by kernel_rfl
        exact (show Tryd.prog.wantsStandIn t = false by simpa using List.all_eq_true.1 hall t hm)⟩)
    (by kernel_rfl)
#print axioms proved
end Go.Proofs.YtlmhioanjmhaiaaDoor.rowsWrites
namespace Go.Proofs.YtlmhioanjmhaiaaDoor
/-- The card, under a short name, for the claim. -/
theorem rowsWrites_card : Rows.RowsWritesCardSaid := rowsWrites.proved
end Go.Proofs.YtlmhioanjmhaiaaDoor
