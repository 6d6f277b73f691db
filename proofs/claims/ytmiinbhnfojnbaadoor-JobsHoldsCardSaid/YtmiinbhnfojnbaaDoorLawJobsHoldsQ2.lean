/-
  The engine, contracts and laws: 17 texts in one (merge.py): RPb RPc RPd RPe RPf RPg RPh RPi RPr Ja Jc Jd Je Jf Jg Jh Ji.
  Conditions: none. By an AI agent.
-/
import Derived.Test.YtmiinbhnfojnbaaDoorLawJobsHoldsQ1
set_option linter.unusedSimpArgs false
set_option linter.unusedVariables false
set_option linter.unusedSectionVars false
set_option maxRecDepth 10000
namespace Go.Proofs.YtmiinbhnfojnbaaDoor
open Go Eng
def U4 (a : Nat) : List UInt8 → Nat
  | [] => a
  | c :: l => U4 (a * 256 + c.toNat) l
def invL (i : Bool) (l : List UInt8) : List UInt8 := if i then l.map W1 else l
theorem slT_lo {s : ByteArray} {q : IntKind} {i : Nat} (h : i ≤ (bl s).length) : slT (.string s) (some (.int q (i : Int))) none = some (.string (mk ((bl s).drop i))) := by
  show ((Wl (bl s).length (bl s).length none).bind fun h => (WN h (some (.int q (i : Int)))).map fun l => Value.string (mk (((bl s).take h).drop l))) = _
  show ((WN (bl s).length (some (.int q (i : Int)))).map fun l => Value.string (mk (((bl s).take (bl s).length).drop l))) = _
  rw [low_nat h, List.take_length]
  rfl
theorem shl_num {a : Nat} (h : a * 256 < 18446744073709551616) : ∀ ox oy, Yf Tryd.prog .shl T.uint64 ox oy (.int .u64 (a : Int)) (.int .u64 8) = some (.int .u64 ((a * 256 : Nat) : Int)) := fun ox oy => by
  have e := shlP (P := Tryd.prog) (t := T.uint64) (ox := ox) (oy := oy) (q := .u64) (q' := .u64) (a := (a : Int)) (b := 8) (by decide)
  rw [e, show ((a : Int) * 2 ^ (8 : Int).toNat) = ((a * 256 : Nat) : Int) by rw [Int.natCast_mul]; rfl, QT ⟨by omega, by omega⟩]
theorem or_num {a c : Nat} (hc : c < 256) (h : a * 256 + c < 18446744073709551616) : ∀ ox oy, Yf Tryd.prog .or T.uint64 ox oy (.int .u64 ((a * 256 : Nat) : Int)) (.int .u64 (c : Int)) = some (.int .u64 ((a * 256 + c : Nat) : Int)) := fun ox oy => by
  have q1 : a * 256 < 2 ^ IntKind.u64.bits := by show _ < 18446744073709551616; omega
  have q2 : c < 2 ^ IntKind.u64.bits := by show _ < 18446744073709551616; omega
  rw [orU q1 q2, show a * 256 ||| c = a * 256 + c from or_add (k := 8) hc, QT ⟨by omega, by omega⟩]
theorem x_u8_u64 (c : UInt8) (H : AHeap) : YP Tryd.prog T.uint8 T.uint64 (.int .u8 (c.toNat : Int)) H = some (.int .u64 (c.toNat : Int), H) := by
  have h := c.toNat_lt
  refine (Xk (a := .u8) (b := .u64) (s := T.uint8) (t := T.uint64) Tryd.underlying5 Tryd.underlying66).trans ?_
  rw [QT ⟨by omega, by omega⟩]
theorem l_number (s x : Value) (inv : Bool) (l : List UInt8) (v : Value) (H : AHeap) (hr : Rd EB H v l) (h8 : l.length ≤ 8) : ∀ (t : List UInt8) (i a : Nat), l.drop i = t → a < 256 ^ i →
    ∀ K : K, Wp s x (.bool inv) (.int .u64 (a : Int)) v (.int .i64 (l.length : Int)) (.int .i64 (i : Int)) H (YI [0, 1, 9] 0 K) = K .normal [(0, s), (1, x), (9, .int .u64 ((U4 a (invL inv t) : Nat) : Int))] H
  | [], i, a, hx, ha => fun K => by
    have h : l.length ≤ i := List.drop_eq_nil_iff.1 hx
    have hlt : ¬ (i : Int) < (l.length : Int) := by omega
    have e : U4 a (invL inv []) = a := by cases inv <;> rfl
    rw [e, r_rows_number_0]
    simp (disch := first | with_reducible rfl | assumption | omega | rfl | (simp only [go_sem]; first | done | omega)) only [go_sem, ↓reduceIte, reduceCtorEq, Nat.reduceEqDiff, Nat.reduceAdd, Nat.reduceSub, Nat.reduceMul, Nat.reduceDiv, Nat.reduceMod, Nat.reduceLeDiff, Nat.reduceLT, Nat.reduceBEq, Int.reduceEq, Int.reduceBEq, Int.reduceBNe, Int.reduceLT, Int.reduceLE, Int.reduceAdd, Int.reduceSub, Int.reduceNeg, Int.reduceToNat, Int.reducePow, Nat.reducePow, Int.reduceMul, Int.reduceDiv, ↓Vb, hlt]
  | c :: t, i, a, hx, ha => fun K => by
    obtain ⟨h, hxa, hx'⟩ := WB hx
    have hlt : (i : Int) < (l.length : Int) := by omega
    obtain ⟨b1, o1, ix, cl, _⟩ := hr.byte h
    rw [hxa] at cl
    have hp : 256 ^ (i + 1) ≤ 256 ^ 8 := Nat.pow_le_pow_right (by decide) (by omega)
    have hp8 : (256 : Nat) ^ 8 = 18446744073709551616 := by decide
    have hps : (256 : Nat) ^ (i + 1) = 256 ^ i * 256 := Nat.pow_succ ..
    obtain ⟨d, hd⟩ : ∃ d : UInt8, (if inv then W1 c else c) = d := ⟨_, rfl⟩
    have hdl := d.toNat_lt
    have e : U4 a (invL inv (c :: t)) = U4 (a * 256 + d.toNat) (invL inv t) := by cases inv <;> (rw [← hd]; rfl)
    have sh := shl_num (a := a) (by omega)
    have orr := or_num (a := a) (c := d.toNat) (by omega) (by omega)
    have ih := l_number s x inv l v H hr h8 t (i + 1) (a * 256 + d.toNat) hx' (by omega) K
    rw [Int.natCast_add] at ih
    rw [e, r_rows_number_0]
    cases inv with
    | false =>
      have hd : c = d := hd
      subst hd
      simp (disch := first | with_reducible rfl | assumption | omega | rfl | (simp only [go_sem]; first | done | omega)) only [go_sem, ↓reduceIte, reduceCtorEq, Nat.reduceEqDiff, Nat.reduceAdd, Nat.reduceSub, Nat.reduceMul, Nat.reduceDiv, Nat.reduceMod, Nat.reduceLeDiff, Nat.reduceLT, Nat.reduceBEq, Int.reduceEq, Int.reduceBEq, Int.reduceBNe, Int.reduceLT, Int.reduceLE, Int.reduceAdd, Int.reduceSub, Int.reduceNeg, Int.reduceToNat, Int.reducePow, Nat.reducePow, Int.reduceMul, Int.reduceDiv, ↓Vb, hlt, ix, cl, sh, x_u8_u64, orr]
      exact ih
    | true =>
      have hd : W1 c = d := hd
      have sub1 : ∀ ox oy, Yf Tryd.prog .sub T.uint8 ox oy (.int .u8 255) (.int .u8 (c.toNat : Int)) = some (.int .u8 (d.toNat : Int)) := fun ox oy => by rw [xbin_sub, wrapU8, ← hd, inv8_nat]
      simp (disch := first | with_reducible rfl | assumption | omega | rfl | (simp only [go_sem]; first | done | omega)) only [go_sem, ↓reduceIte, reduceCtorEq, Nat.reduceEqDiff, Nat.reduceAdd, Nat.reduceSub, Nat.reduceMul, Nat.reduceDiv, Nat.reduceMod, Nat.reduceLeDiff, Nat.reduceLT, Nat.reduceBEq, Int.reduceEq, Int.reduceBEq, Int.reduceBNe, Int.reduceLT, Int.reduceLE, Int.reduceAdd, Int.reduceSub, Int.reduceNeg, Int.reduceToNat, Int.reducePow, Nat.reducePow, Int.reduceMul, Int.reduceDiv, ↓Vb, hlt, ix, cl, sub1, sh, x_u8_u64, orr]
      exact ih
def Qi (s : List UInt8) (n : Nat) (inv : Bool) : Option (Nat × List UInt8) := if 8 < n ∨ s.length < n then none else some (U4 0 (invL inv (s.take n)), s.drop n)
def numV : Option (Nat × List UInt8) → Value
  | none => .tuple #[.int .u64 0, .string (mk []), .bool false]
  | some (n, r) => .tuple #[.int .u64 (n : Int), .string (mk r), .bool true]
theorem q_number (s : List UInt8) (n : Nat) (inv : Bool) (H : AHeap) : CC F.rows_number [.string (mk s), .int .i64 (n : Int), .bool inv] H = some (numV (Qi s n inv), H) := by
  unfold Qi
  by_cases h8 : 8 < (n : Int)
  · rw [if_pos (Or.inl (by omega))]
    apply Yj _ (Zw _ _ _ H) rfl
    rotate_left 2
    · simp (disch := first | with_reducible rfl | assumption | omega | rfl | (simp only [go_sem]; first | done | omega)) only [go_sem, ↓reduceIte, reduceCtorEq, Nat.reduceEqDiff, Nat.reduceAdd, Nat.reduceSub, Nat.reduceMul, Nat.reduceDiv, Nat.reduceMod, Nat.reduceLeDiff, Nat.reduceLT, Nat.reduceBEq, Int.reduceEq, Int.reduceBEq, Int.reduceBNe, Int.reduceLT, Int.reduceLE, Int.reduceAdd, Int.reduceSub, Int.reduceNeg, Int.reduceToNat, Int.reducePow, Nat.reducePow, Int.reduceMul, Int.reduceDiv, ↓W0, h8]
      rfl
    · (repeat (first | exact Fr.refl _ | refine Fr.push ?_ _ | refine Fr.set ?_ _ _ (by intro h; first | omega | (simp only [go_sem] at h; omega))))
  by_cases hl : (s.length : Int) < (n : Int)
  · rw [if_pos (Or.inr (by omega))]
    apply Yj _ (Zw _ _ _ H) rfl
    rotate_left 2
    · simp (disch := first | with_reducible rfl | assumption | omega | rfl | (simp only [go_sem]; first | done | omega)) only [go_sem, ↓reduceIte, reduceCtorEq, Nat.reduceEqDiff, Nat.reduceAdd, Nat.reduceSub, Nat.reduceMul, Nat.reduceDiv, Nat.reduceMod, Nat.reduceLeDiff, Nat.reduceLT, Nat.reduceBEq, Int.reduceEq, Int.reduceBEq, Int.reduceBNe, Int.reduceLT, Int.reduceLE, Int.reduceAdd, Int.reduceSub, Int.reduceNeg, Int.reduceToNat, Int.reducePow, Nat.reducePow, Int.reduceMul, Int.reduceDiv, ↓W0, h8, YT, hl]
      rfl
    · (repeat (first | exact Fr.refl _ | refine Fr.push ?_ _ | refine Fr.set ?_ _ _ (by intro h; first | omega | (simp only [go_sem] at h; omega))))
  rw [if_neg (show ¬ (8 < n ∨ s.length < n) by omega)]
  have a1 := slT_hi (s := mk s) (q := .i64) (j := n) (by rw [YT]; omega)
  have a2 := slT_lo (s := mk s) (q := .i64) (i := n) (by rw [YT]; omega)
  rw [YT] at a1 a2
  have cv := x_sb (s.take n) H
  obtain ⟨H1, hH1⟩ : ∃ H1, H.push (.cells (EB.cells (s.take n)) T.uint8 true) = H1 := ⟨_, rfl⟩
  have s1 : Yq H H1 := by rw [← hH1]; exact (Fr.refl H).push _
  have f1 : H1.f H.n = .cells (EB.cells (s.take n)) T.uint8 true := by rw [← hH1]; exact Yu rfl
  rw [hH1] at cv
  have hlen : (s.take n).length = n := by simp; omega
  have ow : Own EB H1 T.uint8 (.slice (some ⟨H.n, 0, none⟩) (s.take n).length (2 * (s.take n).length + 1)) (s.take n) :=
    .inr (.inr ⟨H.n, 0, (s.take n).length, EB.cells (s.take n), rfl, Nat.le_refl _, by rw [← hH1]; exact Nat.lt_succ_self _, f1, by rw [V8]; simp [EB], by
      rw [List.drop_zero, List.take_of_length_le (by rw [V8]; simp [EB])]⟩)
  have lo := l_number (.string (mk s)) (.int .i64 (n : Int)) inv (s.take n) _ H1 ow.rd (by omega) (s.take n) 0 0 rfl (by decide)
  have lv := ow.rd.lenS
  generalize Value.slice (some ⟨H.n, 0, none⟩) (s.take n).length (2 * (s.take n).length + 1) = v at cv lo lv
  rw [hlen] at lo lv
  have lo : ∀ K : K, Wp (.string (mk s)) (.int .i64 (n : Int)) (.bool inv) (.int .u64 0) v (.int .i64 (n : Int)) (.int .i64 0) H1 (YI [0, 1, 9] 0 K) = K .normal [(0, .string (mk s)), (1, .int .i64 (n : Int)), (9, .int .u64 ((U4 0 (invL inv (s.take n)) : Nat) : Int))] H1 := lo
  apply Yj _ (Zw _ _ _ H) rfl
  rotate_left 2
  · simp (disch := first | with_reducible rfl | assumption | omega | rfl | (simp only [go_sem]; first | done | omega)) only [go_sem, ↓reduceIte, reduceCtorEq, Nat.reduceEqDiff, Nat.reduceAdd, Nat.reduceSub, Nat.reduceMul, Nat.reduceDiv, Nat.reduceMod, Nat.reduceLeDiff, Nat.reduceLT, Nat.reduceBEq, Int.reduceEq, Int.reduceBEq, Int.reduceBNe, Int.reduceLT, Int.reduceLE, Int.reduceAdd, Int.reduceSub, Int.reduceNeg, Int.reduceToNat, Int.reducePow, Nat.reducePow, Int.reduceMul, Int.reduceDiv, ↓W0, h8, YT, hl, a1, cv, lv, lo, a2]
    rfl
  · exact s1
end Go.Proofs.YtmiinbhnfojnbaaDoor

set_option maxRecDepth 10000
namespace Go.Proofs.YtmiinbhnfojnbaaDoor
open Go Eng
theorem q_Index (s : ByteArray) (H : AHeap) (hs : (bl s).length ≤ 1000000) : CC F.strings_Index [.string s, .string (mk [0, 1])] H = some (.int .i64 (Lib.index (bl s) [0, 1]), H) := by
  refine D_prim (show prims1 F.strings_Index = some Gb by kernel_rfl) ?_
  have h1 : s.size < 4294967281 := by
    have e : s.size = (bl s).length := by cases s; rfl
    omega
  show (if s.size < 4294967281 then some (Value.int .i64 (Lib.index s.data.toList (mk [0, 1]).data.toList), H) else none) = _
  rw [if_pos h1]
  rfl
theorem q_ReplaceAll2 (s : ByteArray) (H : AHeap) (hs : (bl s).length ≤ 1000000) : CC F.strings_ReplaceAll [.string s, .string (mk [0, 255]), .string (mk [0])] H = some (.string (mk (Lib.replaceAll (bl s) [0, 255] [0])), H) := by
  refine D_prim (show prims1 F.strings_ReplaceAll = some replP by kernel_rfl) ?_
  have h1 : s.size < 4294967281 ∧ 1 ≤ (mk [0, 255]).size ∧ (mk [0]).size ≤ 100 := by
    have e : s.size = (bl s).length := by cases s; rfl
    exact ⟨by omega, by decide, by decide⟩
  show (if s.size < 4294967281 ∧ 1 ≤ (mk [0, 255]).size ∧ (mk [0]).size ≤ 100 then some (Value.string ⟨(Lib.replaceAll s.data.toList (mk [0, 255]).data.toList (mk [0]).data.toList).toArray⟩, H) else none) = _
  rw [if_pos h1]
  rfl
end Go.Proofs.YtmiinbhnfojnbaaDoor

set_option maxRecDepth 10000
namespace Go.Proofs.YtmiinbhnfojnbaaDoor
open Go Eng
def tkU : Option (Nat × List UInt8) → Cl × List UInt8 × Bool
  | none => (⟨1, 0, 0, mk [], false⟩, [], false)
  | some (n, r) => (⟨1, n, 0, mk [], false⟩, r, true)
def tkV (x : Cl × List UInt8 × Bool) : Value := .tuple #[.agg ⟨x.1.l⟩, .string (mk x.2.1), .bool x.2.2]
theorem VW (a : Value) (H : AHeap) : UH Tryd.prog T.api_Cell a H = ldN 5 H a := by
  have h1 : row? Tryd.prog T.api_Cell = some true := by kernel_rfl
  have h2 : Tryd.prog.cellsOf T.api_Cell = 5 := by kernel_rfl
  unfold UH
  rw [h1, h2]
theorem q_take_nil (k : Int) (H : AHeap) : CC F.rows_take [.string (mk []), .int .i64 k] H = some (tkV (⟨k, 0, 0, mk [], false⟩, [], false), H) := by
  obtain ⟨H1, hH1⟩ : ∃ H1, H.push (.cells [.int .i64 0, .int .u64 0, .int .i64 0, .string (mk []), .bool false] T.api_Cell true) = H1 := ⟨_, rfl⟩
  have s1 : Yq H H1 := by rw [← hH1]; exact (Fr.refl H).push _
  have n1 : H1.n = H.n + 1 := by rw [← hH1]; rfl
  have f1 : H1.f H.n = .cells [.int .i64 0, .int .u64 0, .int .i64 0, .string (mk []), .bool false] T.api_Cell true := by rw [← hH1]; exact Yu rfl
  obtain ⟨H2, hH2⟩ : ∃ H2, (H1.push (.cells [.int .i64 0, .int .u64 0, .int .i64 0, .string (mk []), .bool false] T.api_Cell true)).set H1.n (.cells [.int .i64 k, .int .u64 0, .int .i64 0, .string (mk []), .bool false] T.api_Cell true) = H2 := ⟨_, rfl⟩
  have s2 : Yq H1 H2 := by rw [← hH2]; exact Fr.set ((Fr.refl H1).push _) _ _ (fun h => by omega)
  have f2 : H2.f H1.n = .cells [.int .i64 k, .int .u64 0, .int .i64 0, .string (mk []), .bool false] T.api_Cell true := by rw [← hH2]; exact YC
  have g2 : H2.f H.n = .cells [.int .i64 0, .int .u64 0, .int .i64 0, .string (mk []), .bool false] T.api_Cell true := by rw [s2.f (by omega) fun h => h]; exact f1
  obtain ⟨H3, hH3⟩ : ∃ H3, H2.set H.n (.cells [.int .i64 k, .int .u64 0, .int .i64 0, .string (mk []), .bool false] T.api_Cell true) = H3 := ⟨_, rfl⟩
  have s3 : Yq H H3 := by rw [← hH3]; exact Fr.set (s1.trans s2) _ _ (fun h => by omega)
  have f3 : H3.f H.n = .cells [.int .i64 k, .int .u64 0, .int .i64 0, .string (mk []), .bool false] T.api_Cell true := by rw [← hH3]; exact YC
  apply Yj _ (VN _ _ H) rfl
  rotate_left 2
  · simp (disch := first | with_reducible rfl | assumption | omega | rfl | (simp only [go_sem]; first | done | omega)) only [go_sem, ↓reduceIte, reduceCtorEq, Nat.reduceEqDiff, Nat.reduceAdd, Nat.reduceSub, Nat.reduceMul, Nat.reduceDiv, Nat.reduceMod, Nat.reduceLeDiff, Nat.reduceLT, Nat.reduceBEq, Int.reduceEq, Int.reduceBEq, Int.reduceBNe, Int.reduceLT, Int.reduceLE, Int.reduceAdd, Int.reduceSub, Int.reduceNeg, Int.reduceToNat, Int.reducePow, Nat.reducePow, Int.reduceMul, Int.reduceDiv, ↓X9, hH1, hH2, f2, g2, hH3, f3, VW]
    rfl
  · exact s3
theorem q_take_bool (c : UInt8) (s : List UInt8) (H : AHeap) : CC F.rows_take [.string (mk (c :: s)), .int .i64 4] H = some (tkV (⟨4, 0, 0, mk [], decide ((c.toNat : Int) = 1)⟩, s, true), H) := by
  obtain ⟨H1, hH1⟩ : ∃ H1, H.push (.cells [.int .i64 0, .int .u64 0, .int .i64 0, .string (mk []), .bool false] T.api_Cell true) = H1 := ⟨_, rfl⟩
  have s1 : Yq H H1 := by rw [← hH1]; exact (Fr.refl H).push _
  have n1 : H1.n = H.n + 1 := by rw [← hH1]; rfl
  have f1 : H1.f H.n = .cells [.int .i64 0, .int .u64 0, .int .i64 0, .string (mk []), .bool false] T.api_Cell true := by rw [← hH1]; exact Yu rfl
  obtain ⟨H2, hH2⟩ : ∃ H2, (H1.push (.cells [.int .i64 0, .int .u64 0, .int .i64 0, .string (mk []), .bool false] T.api_Cell true)).set H1.n (.cells [.int .i64 4, .int .u64 0, .int .i64 0, .string (mk []), .bool false] T.api_Cell true) = H2 := ⟨_, rfl⟩
  have s2 : Yq H1 H2 := by rw [← hH2]; exact Fr.set ((Fr.refl H1).push _) _ _ (fun h => by omega)
  have f2 : H2.f H1.n = .cells [.int .i64 4, .int .u64 0, .int .i64 0, .string (mk []), .bool false] T.api_Cell true := by rw [← hH2]; exact YC
  obtain ⟨d, hd⟩ : ∃ d, decide ((c.toNat : Int) = 1) = d := ⟨_, rfl⟩
  obtain ⟨H3, hH3⟩ : ∃ H3, H2.set H1.n (.cells [.int .i64 4, .int .u64 0, .int .i64 0, .string (mk []), .bool d] T.api_Cell true) = H3 := ⟨_, rfl⟩
  have s3 : Yq H1 H3 := by rw [← hH3]; exact Fr.set s2 _ _ (fun h => by omega)
  have f3 : H3.f H1.n = .cells [.int .i64 4, .int .u64 0, .int .i64 0, .string (mk []), .bool d] T.api_Cell true := by rw [← hH3]; exact YC
  have g3 : H3.f H.n = .cells [.int .i64 0, .int .u64 0, .int .i64 0, .string (mk []), .bool false] T.api_Cell true := by rw [s3.f (by omega) fun h => h]; exact f1
  obtain ⟨H4, hH4⟩ : ∃ H4, H3.set H.n (.cells [.int .i64 4, .int .u64 0, .int .i64 0, .string (mk []), .bool d] T.api_Cell true) = H4 := ⟨_, rfl⟩
  have s4 : Yq H H4 := by rw [← hH4]; exact Fr.set (s1.trans s3) _ _ (fun h => by omega)
  have f4 : H4.f H.n = .cells [.int .i64 4, .int .u64 0, .int .i64 0, .string (mk []), .bool d] T.api_Cell true := by rw [← hH4]; exact YC
  have a1 := slT_lo (s := mk (c :: s)) (q := .i64) (i := 1) (by rw [YT]; simp)
  rw [YT] at a1
  have a1 : slT (.string (mk (c :: s))) (some (.int .i64 1)) none = some (.string (mk s)) := a1
  have ix := xix (s := mk (c :: s)) (i := 0) (by rw [YT]; simp)
  have ix : Uj Tryd.prog T.string (.string (mk (c :: s))) (.int .i64 0) = some (.int .u8 (c.toNat : Int)) := ix
  have hc := c.toNat_lt
  have cv : ∀ H, YP Tryd.prog T.uint8 T.int (.int .u8 (c.toNat : Int)) H = some (.int .i64 (c.toNat : Int), H) := fun H => by
    refine (Xk (a := .u8) (b := .i64) (s := T.uint8) (t := T.int) Tryd.underlying5 Tryd.underlying3).trans ?_
    rw [XE ⟨by omega, by omega⟩]
  generalize (c.toNat : Int) = z at *
  apply Yj _ (VN _ _ H) rfl
  rotate_left 2
  · simp (disch := first | with_reducible rfl | assumption | omega | rfl | (simp only [go_sem]; first | done | omega)) only [go_sem, ↓reduceIte, reduceCtorEq, Nat.reduceEqDiff, Nat.reduceAdd, Nat.reduceSub, Nat.reduceMul, Nat.reduceDiv, Nat.reduceMod, Nat.reduceLeDiff, Nat.reduceLT, Nat.reduceBEq, Int.reduceEq, Int.reduceBEq, Int.reduceBNe, Int.reduceLT, Int.reduceLE, Int.reduceAdd, Int.reduceSub, Int.reduceNeg, Int.reduceToNat, Int.reducePow, Nat.reducePow, Int.reduceMul, Int.reduceDiv, ↓X9, hH1, hH2, f2, ix, cv, hd, hH3, f3, a1, g3, hH4, f4, VW]
    rfl
  · exact s4
theorem q_take_uint (c : UInt8) (s : List UInt8) (H : AHeap) : CC F.rows_take [.string (mk (c :: s)), .int .i64 1] H = some (tkV (tkU (Qi s c.toNat false)), H) := by
  obtain ⟨H1, hH1⟩ : ∃ H1, H.push (.cells [.int .i64 0, .int .u64 0, .int .i64 0, .string (mk []), .bool false] T.api_Cell true) = H1 := ⟨_, rfl⟩
  have s1 : Yq H H1 := by rw [← hH1]; exact (Fr.refl H).push _
  have n1 : H1.n = H.n + 1 := by rw [← hH1]; rfl
  have f1 : H1.f H.n = .cells [.int .i64 0, .int .u64 0, .int .i64 0, .string (mk []), .bool false] T.api_Cell true := by rw [← hH1]; exact Yu rfl
  obtain ⟨H2, hH2⟩ : ∃ H2, (H1.push (.cells [.int .i64 0, .int .u64 0, .int .i64 0, .string (mk []), .bool false] T.api_Cell true)).set H1.n (.cells [.int .i64 1, .int .u64 0, .int .i64 0, .string (mk []), .bool false] T.api_Cell true) = H2 := ⟨_, rfl⟩
  have s2 : Yq H1 H2 := by rw [← hH2]; exact Fr.set ((Fr.refl H1).push _) _ _ (fun h => by omega)
  have f2 : H2.f H1.n = .cells [.int .i64 1, .int .u64 0, .int .i64 0, .string (mk []), .bool false] T.api_Cell true := by rw [← hH2]; exact YC
  have m := q_number s c.toNat false H2
  obtain ⟨u, r, ok, he, hv⟩ : ∃ (u : Nat) (r : List UInt8) (ok : Bool), tkU (Qi s c.toNat false) = (⟨1, u, 0, mk [], false⟩, r, ok) ∧ numV (Qi s c.toNat false) = .tuple #[.int .u64 (u : Int), .string (mk r), .bool ok] := by
    cases Qi s c.toNat false with
    | none => exact ⟨0, [], false, rfl, rfl⟩
    | some p => exact ⟨p.1, p.2, true, rfl, rfl⟩
  rw [hv] at m
  rw [he]
  obtain ⟨H3, hH3⟩ : ∃ H3, H2.set H1.n (.cells [.int .i64 1, .int .u64 (u : Int), .int .i64 0, .string (mk []), .bool false] T.api_Cell true) = H3 := ⟨_, rfl⟩
  have s3 : Yq H1 H3 := by rw [← hH3]; exact Fr.set s2 _ _ (fun h => by omega)
  have f3 : H3.f H1.n = .cells [.int .i64 1, .int .u64 (u : Int), .int .i64 0, .string (mk []), .bool false] T.api_Cell true := by rw [← hH3]; exact YC
  have g3 : H3.f H.n = .cells [.int .i64 0, .int .u64 0, .int .i64 0, .string (mk []), .bool false] T.api_Cell true := by rw [s3.f (by omega) fun h => h]; exact f1
  obtain ⟨H4, hH4⟩ : ∃ H4, H3.set H.n (.cells [.int .i64 1, .int .u64 (u : Int), .int .i64 0, .string (mk []), .bool false] T.api_Cell true) = H4 := ⟨_, rfl⟩
  have s4 : Yq H H4 := by rw [← hH4]; exact Fr.set (s1.trans s3) _ _ (fun h => by omega)
  have f4 : H4.f H.n = .cells [.int .i64 1, .int .u64 (u : Int), .int .i64 0, .string (mk []), .bool false] T.api_Cell true := by rw [← hH4]; exact YC
  have a1 := slT_lo (s := mk (c :: s)) (q := .i64) (i := 1) (by rw [YT]; simp)
  rw [YT] at a1
  have a1 : slT (.string (mk (c :: s))) (some (.int .i64 1)) none = some (.string (mk s)) := a1
  have ix := xix (s := mk (c :: s)) (i := 0) (by rw [YT]; simp)
  have ix : Uj Tryd.prog T.string (.string (mk (c :: s))) (.int .i64 0) = some (.int .u8 (c.toNat : Int)) := ix
  have hc := c.toNat_lt
  have cv : ∀ H, YP Tryd.prog T.uint8 T.int (.int .u8 (c.toNat : Int)) H = some (.int .i64 (c.toNat : Int), H) := fun H => by
    refine (Xk (a := .u8) (b := .i64) (s := T.uint8) (t := T.int) Tryd.underlying5 Tryd.underlying3).trans ?_
    rw [XE ⟨by omega, by omega⟩]
  generalize (c.toNat : Int) = z at *
  apply Yj _ (VN _ _ H) rfl
  rotate_left 2
  · simp (disch := first | with_reducible rfl | assumption | omega | rfl | (simp only [go_sem]; first | done | omega)) only [go_sem, ↓reduceIte, reduceCtorEq, Nat.reduceEqDiff, Nat.reduceAdd, Nat.reduceSub, Nat.reduceMul, Nat.reduceDiv, Nat.reduceMod, Nat.reduceLeDiff, Nat.reduceLT, Nat.reduceBEq, Int.reduceEq, Int.reduceBEq, Int.reduceBNe, Int.reduceLT, Int.reduceLE, Int.reduceAdd, Int.reduceSub, Int.reduceNeg, Int.reduceToNat, Int.reducePow, Nat.reducePow, Int.reduceMul, Int.reduceDiv, ↓X9, hH1, hH2, f2, ix, cv, a1, ↓Ya m, Ya m, hH3, f3, g3, hH4, f4, VW]
    rfl
  · exact s4
def tkP : Option (Nat × List UInt8) → Cl × List UInt8 × Bool
  | none => (⟨2, 0, 0, mk [], false⟩, [], false)
  | some (n, r) => (⟨2, 0, IntKind.wrap .i64 (n : Int), mk [], false⟩, r, true)
theorem q_take_pos (c : UInt8) (s : List UInt8) (H : AHeap) (h8 : 128 ≤ c.toNat) : CC F.rows_take [.string (mk (c :: s)), .int .i64 2] H = some (tkV (tkP (Qi s (c.toNat - 128) false)), H) := by
  obtain ⟨H1, hH1⟩ : ∃ H1, H.push (.cells [.int .i64 0, .int .u64 0, .int .i64 0, .string (mk []), .bool false] T.api_Cell true) = H1 := ⟨_, rfl⟩
  have s1 : Yq H H1 := by rw [← hH1]; exact (Fr.refl H).push _
  have n1 : H1.n = H.n + 1 := by rw [← hH1]; rfl
  have f1 : H1.f H.n = .cells [.int .i64 0, .int .u64 0, .int .i64 0, .string (mk []), .bool false] T.api_Cell true := by rw [← hH1]; exact Yu rfl
  obtain ⟨H2, hH2⟩ : ∃ H2, (H1.push (.cells [.int .i64 0, .int .u64 0, .int .i64 0, .string (mk []), .bool false] T.api_Cell true)).set H1.n (.cells [.int .i64 2, .int .u64 0, .int .i64 0, .string (mk []), .bool false] T.api_Cell true) = H2 := ⟨_, rfl⟩
  have s2 : Yq H1 H2 := by rw [← hH2]; exact Fr.set ((Fr.refl H1).push _) _ _ (fun h => by omega)
  have f2 : H2.f H1.n = .cells [.int .i64 2, .int .u64 0, .int .i64 0, .string (mk []), .bool false] T.api_Cell true := by rw [← hH2]; exact YC
  have m := q_number s (c.toNat - 128) false H2
  obtain ⟨u, i, r, ok, he, hi, hv⟩ : ∃ (u : Nat) (i : Int) (r : List UInt8) (ok : Bool), tkP (Qi s (c.toNat - 128) false) = (⟨2, 0, i, mk [], false⟩, r, ok) ∧ IntKind.wrap .i64 (u : Int) = i ∧ numV (Qi s (c.toNat - 128) false) = .tuple #[.int .u64 (u : Int), .string (mk r), .bool ok] := by
    cases Qi s (c.toNat - 128) false with
    | none => exact ⟨0, 0, [], false, rfl, by decide, rfl⟩
    | some p => exact ⟨p.1, _, p.2, true, rfl, rfl, rfl⟩
  rw [hv] at m
  rw [he]
  obtain ⟨H3, hH3⟩ : ∃ H3, H2.set H1.n (.cells [.int .i64 2, .int .u64 0, .int .i64 i, .string (mk []), .bool false] T.api_Cell true) = H3 := ⟨_, rfl⟩
  have s3 : Yq H1 H3 := by rw [← hH3]; exact Fr.set s2 _ _ (fun h => by omega)
  have f3 : H3.f H1.n = .cells [.int .i64 2, .int .u64 0, .int .i64 i, .string (mk []), .bool false] T.api_Cell true := by rw [← hH3]; exact YC
  have g3 : H3.f H.n = .cells [.int .i64 0, .int .u64 0, .int .i64 0, .string (mk []), .bool false] T.api_Cell true := by rw [s3.f (by omega) fun h => h]; exact f1
  obtain ⟨H4, hH4⟩ : ∃ H4, H3.set H.n (.cells [.int .i64 2, .int .u64 0, .int .i64 i, .string (mk []), .bool false] T.api_Cell true) = H4 := ⟨_, rfl⟩
  have s4 : Yq H H4 := by rw [← hH4]; exact Fr.set (s1.trans s3) _ _ (fun h => by omega)
  have f4 : H4.f H.n = .cells [.int .i64 2, .int .u64 0, .int .i64 i, .string (mk []), .bool false] T.api_Cell true := by rw [← hH4]; exact YC
  have a1 := slT_lo (s := mk (c :: s)) (q := .i64) (i := 1) (by rw [YT]; simp)
  rw [YT] at a1
  have a1 : slT (.string (mk (c :: s))) (some (.int .i64 1)) none = some (.string (mk s)) := a1
  have ix := xix (s := mk (c :: s)) (i := 0) (by rw [YT]; simp)
  have ix : Uj Tryd.prog T.string (.string (mk (c :: s))) (.int .i64 0) = some (.int .u8 (c.toNat : Int)) := ix
  have hc := c.toNat_lt
  have cv : ∀ H, YP Tryd.prog T.uint8 T.int (.int .u8 (c.toNat : Int)) H = some (.int .i64 (c.toNat : Int), H) := fun H => by
    refine (Xk (a := .u8) (b := .i64) (s := T.uint8) (t := T.int) Tryd.underlying5 Tryd.underlying3).trans ?_
    rw [XE ⟨by omega, by omega⟩]
  have hge : 128 ≤ (c.toNat : Int) := by omega
  have sb : ∀ ox oy, Yf Tryd.prog .sub T.int ox oy (.int .i64 (c.toNat : Int)) (.int .i64 128) = some (.int .i64 ((c.toNat - 128 : Nat) : Int)) := fun ox oy => by
    rw [show ((c.toNat - 128 : Nat) : Int) = (c.toNat : Int) - 128 by omega]; exact sub_i64 (by omega)
  have cu : ∀ H, YP Tryd.prog T.uint64 T.int (.int .u64 (u : Int)) H = some (.int .i64 i, H) := fun H => by
    refine (Xk (a := .u64) (b := .i64) (s := T.uint64) (t := T.int) Tryd.underlying66 Tryd.underlying3).trans ?_
    rw [hi]
  generalize ((c.toNat - 128 : Nat) : Int) = y at *
  generalize (c.toNat : Int) = z at *
  apply Yj _ (VN _ _ H) rfl
  rotate_left 2
  · simp (disch := first | with_reducible rfl | assumption | omega | rfl | (simp only [go_sem]; first | done | omega)) only [go_sem, ↓reduceIte, reduceCtorEq, Nat.reduceEqDiff, Nat.reduceAdd, Nat.reduceSub, Nat.reduceMul, Nat.reduceDiv, Nat.reduceMod, Nat.reduceLeDiff, Nat.reduceLT, Nat.reduceBEq, Int.reduceEq, Int.reduceBEq, Int.reduceBNe, Int.reduceLT, Int.reduceLE, Int.reduceAdd, Int.reduceSub, Int.reduceNeg, Int.reduceToNat, Int.reducePow, Nat.reducePow, Int.reduceMul, Int.reduceDiv, ↓X9, hH1, hH2, f2, ix, cv, hge, a1, sb, ↓Ya m, Ya m, cu, hH3, f3, g3, hH4, f4, VW]
    rfl
  · exact s4
def tkN : Option (Nat × List UInt8) → Cl × List UInt8 × Bool
  | none => (⟨2, 0, -1, mk [], false⟩, [], false)
  | some (n, r) => (⟨2, 0, IntKind.wrap .i64 (IntKind.wrap .i64 (-(IntKind.wrap .i64 (n : Int))) - 1), mk [], false⟩, r, true)
theorem q_take_neg (c : UInt8) (s : List UInt8) (H : AHeap) (h8 : c.toNat < 128) : CC F.rows_take [.string (mk (c :: s)), .int .i64 2] H = some (tkV (tkN (Qi s (127 - c.toNat) true)), H) := by
  obtain ⟨H1, hH1⟩ : ∃ H1, H.push (.cells [.int .i64 0, .int .u64 0, .int .i64 0, .string (mk []), .bool false] T.api_Cell true) = H1 := ⟨_, rfl⟩
  have s1 : Yq H H1 := by rw [← hH1]; exact (Fr.refl H).push _
  have n1 : H1.n = H.n + 1 := by rw [← hH1]; rfl
  have f1 : H1.f H.n = .cells [.int .i64 0, .int .u64 0, .int .i64 0, .string (mk []), .bool false] T.api_Cell true := by rw [← hH1]; exact Yu rfl
  obtain ⟨H2, hH2⟩ : ∃ H2, (H1.push (.cells [.int .i64 0, .int .u64 0, .int .i64 0, .string (mk []), .bool false] T.api_Cell true)).set H1.n (.cells [.int .i64 2, .int .u64 0, .int .i64 0, .string (mk []), .bool false] T.api_Cell true) = H2 := ⟨_, rfl⟩
  have s2 : Yq H1 H2 := by rw [← hH2]; exact Fr.set ((Fr.refl H1).push _) _ _ (fun h => by omega)
  have f2 : H2.f H1.n = .cells [.int .i64 2, .int .u64 0, .int .i64 0, .string (mk []), .bool false] T.api_Cell true := by rw [← hH2]; exact YC
  have m := q_number s (127 - c.toNat) true H2
  obtain ⟨u, i, r, ok, he, hi, hv⟩ : ∃ (u : Nat) (i : Int) (r : List UInt8) (ok : Bool), tkN (Qi s (127 - c.toNat) true) = (⟨2, 0, i, mk [], false⟩, r, ok) ∧ IntKind.wrap .i64 (IntKind.wrap .i64 (-(IntKind.wrap .i64 (u : Int))) - 1) = i ∧ numV (Qi s (127 - c.toNat) true) = .tuple #[.int .u64 (u : Int), .string (mk r), .bool ok] := by
    cases Qi s (127 - c.toNat) true with
    | none => exact ⟨0, -1, [], false, rfl, by decide, rfl⟩
    | some p => exact ⟨p.1, _, p.2, true, rfl, rfl, rfl⟩
  rw [hv] at m
  rw [he]
  obtain ⟨H3, hH3⟩ : ∃ H3, H2.set H1.n (.cells [.int .i64 2, .int .u64 0, .int .i64 i, .string (mk []), .bool false] T.api_Cell true) = H3 := ⟨_, rfl⟩
  have s3 : Yq H1 H3 := by rw [← hH3]; exact Fr.set s2 _ _ (fun h => by omega)
  have f3 : H3.f H1.n = .cells [.int .i64 2, .int .u64 0, .int .i64 i, .string (mk []), .bool false] T.api_Cell true := by rw [← hH3]; exact YC
  have g3 : H3.f H.n = .cells [.int .i64 0, .int .u64 0, .int .i64 0, .string (mk []), .bool false] T.api_Cell true := by rw [s3.f (by omega) fun h => h]; exact f1
  obtain ⟨H4, hH4⟩ : ∃ H4, H3.set H.n (.cells [.int .i64 2, .int .u64 0, .int .i64 i, .string (mk []), .bool false] T.api_Cell true) = H4 := ⟨_, rfl⟩
  have s4 : Yq H H4 := by rw [← hH4]; exact Fr.set (s1.trans s3) _ _ (fun h => by omega)
  have f4 : H4.f H.n = .cells [.int .i64 2, .int .u64 0, .int .i64 i, .string (mk []), .bool false] T.api_Cell true := by rw [← hH4]; exact YC
  have a1 := slT_lo (s := mk (c :: s)) (q := .i64) (i := 1) (by rw [YT]; simp)
  rw [YT] at a1
  have a1 : slT (.string (mk (c :: s))) (some (.int .i64 1)) none = some (.string (mk s)) := a1
  have ix := xix (s := mk (c :: s)) (i := 0) (by rw [YT]; simp)
  have ix : Uj Tryd.prog T.string (.string (mk (c :: s))) (.int .i64 0) = some (.int .u8 (c.toNat : Int)) := ix
  have hc := c.toNat_lt
  have cv : ∀ H, YP Tryd.prog T.uint8 T.int (.int .u8 (c.toNat : Int)) H = some (.int .i64 (c.toNat : Int), H) := fun H => by
    refine (Xk (a := .u8) (b := .i64) (s := T.uint8) (t := T.int) Tryd.underlying5 Tryd.underlying3).trans ?_
    rw [XE ⟨by omega, by omega⟩]
  have hge : ¬ 128 ≤ (c.toNat : Int) := by omega
  have sb : ∀ ox oy, Yf Tryd.prog .sub T.int ox oy (.int .i64 127) (.int .i64 (c.toNat : Int)) = some (.int .i64 ((127 - c.toNat : Nat) : Int)) := fun ox oy => by
    rw [show ((127 - c.toNat : Nat) : Int) = 127 - (c.toNat : Int) by omega]; exact sub_i64 (by omega)
  obtain ⟨i0, hi0⟩ : ∃ i0, IntKind.wrap .i64 (u : Int) = i0 := ⟨_, rfl⟩
  rw [hi0] at hi
  obtain ⟨i1, hi1⟩ : ∃ i1, IntKind.wrap .i64 (-i0) = i1 := ⟨_, rfl⟩
  rw [hi1] at hi
  have cu : ∀ H, YP Tryd.prog T.uint64 T.int (.int .u64 (u : Int)) H = some (.int .i64 i0, H) := fun H => by
    refine (Xk (a := .u64) (b := .i64) (s := T.uint64) (t := T.int) Tryd.underlying66 Tryd.underlying3).trans ?_
    rw [hi0]
  have ng : xun Tryd.prog .neg (.int .i64 i0) = some (.int .i64 i1) := by
    have : xun Tryd.prog .neg (.int .i64 i0) = some (.int .i64 (IntKind.wrap .i64 (-i0))) := by
      simp [xun, gr, pvg, pv, Op.unary, Op.intArith, Bind.bind, Sem.bind, Pure.pure]
    rw [this, hi1]
  have sv : ∀ ox oy, Yf Tryd.prog .sub T.int ox oy (.int .i64 i1) (.int .i64 1) = some (.int .i64 i) := fun ox oy => by rw [xbin_sub, hi]
  generalize ((127 - c.toNat : Nat) : Int) = y at *
  generalize (c.toNat : Int) = z at *
  apply Yj _ (VN _ _ H) rfl
  rotate_left 2
  · simp (disch := first | with_reducible rfl | assumption | omega | rfl | (simp only [go_sem]; first | done | omega)) only [go_sem, ↓reduceIte, reduceCtorEq, Nat.reduceEqDiff, Nat.reduceAdd, Nat.reduceSub, Nat.reduceMul, Nat.reduceDiv, Nat.reduceMod, Nat.reduceLeDiff, Nat.reduceLT, Nat.reduceBEq, Int.reduceEq, Int.reduceBEq, Int.reduceBNe, Int.reduceLT, Int.reduceLE, Int.reduceAdd, Int.reduceSub, Int.reduceNeg, Int.reduceToNat, Int.reducePow, Nat.reducePow, Int.reduceMul, Int.reduceDiv, ↓X9, hH1, hH2, f2, ix, cv, hge, a1, sb, ↓Ya m, Ya m, cu, ng, sv, hH3, f3, g3, hH4, f4, VW]
    rfl
  · exact s4
end Go.Proofs.YtmiinbhnfojnbaaDoor

set_option maxRecDepth 10000
namespace Go.Proofs.YtmiinbhnfojnbaaDoor
open Go Eng
def tkT (s : List UInt8) : Cl × List UInt8 × Bool :=
  if Lib.index s [0, 1] < 0 then (⟨3, 0, 0, mk [], false⟩, [], false)
  else (⟨3, 0, 0, mk (Lib.replaceAll (s.take (Lib.index s [0, 1]).toNat) [0, 255] [0]), false⟩, s.drop ((Lib.index s [0, 1]).toNat + 2), true)
set_option maxHeartbeats 1000000 in
theorem q_take_text (c : UInt8) (s : List UInt8) (H : AHeap) (hl : (c :: s).length ≤ 1000000) : CC F.rows_take [.string (mk (c :: s)), .int .i64 3] H = some (tkV (tkT (c :: s)), H) := by
  obtain ⟨H1, hH1⟩ : ∃ H1, H.push (.cells [.int .i64 0, .int .u64 0, .int .i64 0, .string (mk []), .bool false] T.api_Cell true) = H1 := ⟨_, rfl⟩
  have s1 : Yq H H1 := by rw [← hH1]; exact (Fr.refl H).push _
  have n1 : H1.n = H.n + 1 := by rw [← hH1]; rfl
  have f1 : H1.f H.n = .cells [.int .i64 0, .int .u64 0, .int .i64 0, .string (mk []), .bool false] T.api_Cell true := by rw [← hH1]; exact Yu rfl
  obtain ⟨H2, hH2⟩ : ∃ H2, (H1.push (.cells [.int .i64 0, .int .u64 0, .int .i64 0, .string (mk []), .bool false] T.api_Cell true)).set H1.n (.cells [.int .i64 3, .int .u64 0, .int .i64 0, .string (mk []), .bool false] T.api_Cell true) = H2 := ⟨_, rfl⟩
  have s2 : Yq H1 H2 := by rw [← hH2]; exact Fr.set ((Fr.refl H1).push _) _ _ (fun h => by omega)
  have f2 : H2.f H1.n = .cells [.int .i64 3, .int .u64 0, .int .i64 0, .string (mk []), .bool false] T.api_Cell true := by rw [← hH2]; exact YC
  have g2 : H2.f H.n = .cells [.int .i64 0, .int .u64 0, .int .i64 0, .string (mk []), .bool false] T.api_Cell true := by rw [s2.f (by omega) fun h => h]; exact f1
  have ix := xix (s := mk (c :: s)) (i := 0) (by rw [YT]; simp)
  have ix : Uj Tryd.prog T.string (.string (mk (c :: s))) (.int .i64 0) = some (.int .u8 (c.toNat : Int)) := ix
  have hc := c.toNat_lt
  have cv : ∀ H, YP Tryd.prog T.uint8 T.int (.int .u8 (c.toNat : Int)) H = some (.int .i64 (c.toNat : Int), H) := fun H => by
    refine (Xk (a := .u8) (b := .i64) (s := T.uint8) (t := T.int) Tryd.underlying5 Tryd.underlying3).trans ?_
    rw [XE ⟨by omega, by omega⟩]
  have m := q_Index (mk (c :: s)) H2 (by rw [YT]; exact hl)
  rw [YT] at m
  have hge := Lib.index_ge (c :: s) [0, 1]
  have hroom := Lib.index_room (c :: s) [0, 1]
  unfold tkT
  by_cases hneg : Lib.index (c :: s) [0, 1] < 0
  · rw [if_pos hneg]
    obtain ⟨H3, hH3⟩ : ∃ H3, H2.set H.n (.cells [.int .i64 3, .int .u64 0, .int .i64 0, .string (mk []), .bool false] T.api_Cell true) = H3 := ⟨_, rfl⟩
    have s3 : Yq H H3 := by rw [← hH3]; exact Fr.set (s1.trans s2) _ _ (fun h => by omega)
    have f3 : H3.f H.n = .cells [.int .i64 3, .int .u64 0, .int .i64 0, .string (mk []), .bool false] T.api_Cell true := by rw [← hH3]; exact YC
    generalize Lib.index (c :: s) [0, 1] = j at *
    generalize (c.toNat : Int) = z at *
    apply Yj _ (VN _ _ H) rfl
    rotate_left 2
    · simp (disch := first | with_reducible rfl | assumption | omega | rfl | (simp only [go_sem]; first | done | omega)) only [go_sem, ↓reduceIte, reduceCtorEq, Nat.reduceEqDiff, Nat.reduceAdd, Nat.reduceSub, Nat.reduceMul, Nat.reduceDiv, Nat.reduceMod, Nat.reduceLeDiff, Nat.reduceLT, Nat.reduceBEq, Int.reduceEq, Int.reduceBEq, Int.reduceBNe, Int.reduceLT, Int.reduceLE, Int.reduceAdd, Int.reduceSub, Int.reduceNeg, Int.reduceToNat, Int.reducePow, Nat.reducePow, Int.reduceMul, Int.reduceDiv, ↓X9, hH1, hH2, f2, g2, ix, cv, ↓Ya m, Ya m, hneg, hH3, f3, VW]
      rfl
    · exact s3
  · rw [if_neg hneg]
    obtain ⟨n, hn⟩ : ∃ n : Nat, Lib.index (c :: s) [0, 1] = (n : Int) := ⟨(Lib.index (c :: s) [0, 1]).toNat, by omega⟩
    have hroom := hroom (by omega)
    rw [hn] at m hneg hroom ⊢
    rw [Int.toNat_natCast]
    have hroom : n + 2 ≤ (c :: s).length := by
      have : (([0, 1] : List UInt8).length : Int) = 2 := rfl
      omega
    have a1 := slT_hi (s := mk (c :: s)) (q := .i64) (j := n) (by rw [YT]; omega)
    have a2 := slT_lo (s := mk (c :: s)) (q := .i64) (i := n + 2) (by rw [YT]; omega)
    rw [YT] at a1 a2
    have a2 : slT (.string (mk (c :: s))) (some (.int .i64 ((n : Int) + 2))) none = some (.string (mk ((c :: s).drop (n + 2)))) := a2
    have m2 := q_ReplaceAll2 (mk ((c :: s).take n)) H2 (by rw [YT, List.length_take]; omega)
    rw [YT] at m2
    obtain ⟨H3, hH3⟩ : ∃ H3, H2.set H1.n (.cells [.int .i64 3, .int .u64 0, .int .i64 0, .string (mk (Lib.replaceAll ((c :: s).take n) [0, 255] [0])), .bool false] T.api_Cell true) = H3 := ⟨_, rfl⟩
    have s3 : Yq H1 H3 := by rw [← hH3]; exact Fr.set s2 _ _ (fun h => by omega)
    have f3 : H3.f H1.n = .cells [.int .i64 3, .int .u64 0, .int .i64 0, .string (mk (Lib.replaceAll ((c :: s).take n) [0, 255] [0])), .bool false] T.api_Cell true := by rw [← hH3]; exact YC
    have g3 : H3.f H.n = .cells [.int .i64 0, .int .u64 0, .int .i64 0, .string (mk []), .bool false] T.api_Cell true := by rw [s3.f (by omega) fun h => h]; exact f1
    obtain ⟨H4, hH4⟩ : ∃ H4, H3.set H.n (.cells [.int .i64 3, .int .u64 0, .int .i64 0, .string (mk (Lib.replaceAll ((c :: s).take n) [0, 255] [0])), .bool false] T.api_Cell true) = H4 := ⟨_, rfl⟩
    have s4 : Yq H H4 := by rw [← hH4]; exact Fr.set (s1.trans s3) _ _ (fun h => by omega)
    have f4 : H4.f H.n = .cells [.int .i64 3, .int .u64 0, .int .i64 0, .string (mk (Lib.replaceAll ((c :: s).take n) [0, 255] [0])), .bool false] T.api_Cell true := by rw [← hH4]; exact YC
    have ad : ∀ ox oy, Yf Tryd.prog .add T.int ox oy (.int .i64 (n : Int)) (.int .i64 2) = some (.int .i64 ((n : Int) + 2)) := fun ox oy => add_i64 (by omega)
    generalize (c.toNat : Int) = z at *
    generalize Lib.replaceAll ((c :: s).take n) [0, 255] [0] = rp at *
    generalize (c :: s).drop (n + 2) = dr at *
    apply Yj _ (VN _ _ H) rfl
    rotate_left 2
    · simp (disch := first | with_reducible rfl | assumption | omega | rfl | (simp only [go_sem]; first | done | omega)) only [go_sem, ↓reduceIte, reduceCtorEq, Nat.reduceEqDiff, Nat.reduceAdd, Nat.reduceSub, Nat.reduceMul, Nat.reduceDiv, Nat.reduceMod, Nat.reduceLeDiff, Nat.reduceLT, Nat.reduceBEq, Int.reduceEq, Int.reduceBEq, Int.reduceBNe, Int.reduceLT, Int.reduceLE, Int.reduceAdd, Int.reduceSub, Int.reduceNeg, Int.reduceToNat, Int.reducePow, Nat.reducePow, Int.reduceMul, Int.reduceDiv, ↓X9, hH1, hH2, f2, ix, cv, ↓Ya m, Ya m, hneg, a1, ↓Ya m2, Ya m2, ad, a2, hH3, f3, g3, hH4, f4, VW]
      rfl
    · exact s4
def tkC (k : Int) (c : UInt8) (s : List UInt8) : Cl × List UInt8 × Bool :=
  if k = 1 then tkU (Qi s c.toNat false)
  else if k = 2 then (if 128 ≤ c.toNat then tkP (Qi s (c.toNat - 128) false) else tkN (Qi s (127 - c.toNat) true))
  else if k = 3 then tkT (c :: s)
  else (⟨4, 0, 0, mk [], decide ((c.toNat : Int) = 1)⟩, s, true)
def tk (k : Int) : List UInt8 → Cl × List UInt8 × Bool
  | [] => (⟨k, 0, 0, mk [], false⟩, [], false)
  | c :: s => tkC k c s
theorem q_take (k : Int) (s : List UInt8) (H : AHeap) (hk : Vi k = true) (hl : s.length ≤ 1000000) : CC F.rows_take [.string (mk s), .int .i64 k] H = some (tkV (tk k s), H) := by
  cases s with
  | nil => exact q_take_nil k H
  | cons c s =>
    show _ = some (tkV (tkC k c s), H)
    unfold tkC
    by_cases h1 : k = 1
    · subst h1; rw [if_pos rfl]; exact q_take_uint c s H
    rw [if_neg h1]
    by_cases h2 : k = 2
    · subst h2
      rw [if_pos rfl]
      split
      · rename_i h; exact q_take_pos c s H h
      · rename_i h; exact q_take_neg c s H (by omega)
    rw [if_neg h2]
    by_cases h3 : k = 3
    · subst h3
      rw [if_pos rfl]
      exact q_take_text c s H hl
    rw [if_neg h3]
    have h4 : k = 4 := by
      unfold Vi at hk
      simp only [Bool.and_eq_true, decide_eq_true_eq] at hk
      omega
    subst h4
    exact q_take_bool c s H
end Go.Proofs.YtmiinbhnfojnbaaDoor

set_option maxRecDepth 10000
namespace Go.Proofs.YtmiinbhnfojnbaaDoor
open Go Eng
def une : List UInt8 → List UInt8
  | [] => []
  | [c] => [c]
  | c :: d :: l => if c = 0 ∧ d = 255 then 0 :: une l else c :: une (d :: l)
theorem une_len : ∀ l : List UInt8, (une l).length ≤ l.length
  | [] => Nat.le_refl _
  | [_] => Nat.le_refl _
  | c :: d :: l => by
    unfold une
    split
    · have := une_len l; simp; omega
    · have := une_len (d :: l); simp at this ⊢; omega
theorem une_other {c : UInt8} {l : List UInt8} (h : ¬ ([0, 255] : List UInt8).isPrefixOf (c :: l) = true) : une (c :: l) = c :: une l := by
  cases l with
  | nil => rfl
  | cons d l =>
    have : ¬ (c = 0 ∧ d = 255) := by rintro ⟨rfl, rfl⟩; exact h (by simp [List.isPrefixOf])
    rw [une, if_neg this]
theorem index_pre {p l : List UInt8} (h : p.isPrefixOf l = true) : Lib.index l p = 0 := by
  cases l with
  | nil =>
    have : p = [] := by cases p with | nil => rfl | cons a b => simp [List.isPrefixOf] at h
    subst this; rfl
  | cons c l => rw [Lib.index, h]; rfl
theorem Uq {p : List UInt8} {c : UInt8} {l : List UInt8} (h : ¬ p.isPrefixOf (c :: l) = true) : Lib.index (c :: l) p = if Lib.index l p = -1 then -1 else Lib.index l p + 1 := by
  rw [Lib.index]
  simp only [h, if_false]
  by_cases h1 : Lib.index l p = -1 <;> simp [h1]
theorem count_npre {p : List UInt8} (hp : p ≠ []) {c : UInt8} {l : List UInt8} (h : ¬ p.isPrefixOf (c :: l) = true) : Lib.count (c :: l) p = Lib.count l p := by
  by_cases h1 : Lib.index l p = -1
  · rw [Lib.count_miss h1, Lib.count_miss (by rw [Uq h, if_pos h1])]
  · have hg := Lib.index_ge l p
    obtain ⟨i, hi⟩ : ∃ i : Nat, Lib.index l p = i := ⟨(Lib.index l p).toNat, by omega⟩
    rw [Lib.count_hit (i := i) hp hi, Lib.count_hit (i := i + 1) hp (by rw [Uq h, if_neg h1, hi]; omega), Nat.add_right_comm, List.drop_succ_cons]
theorem replaceK_npre {p w : List UInt8} {c : UInt8} {l : List UInt8} (h : ¬ p.isPrefixOf (c :: l) = true) : ∀ k, Lib.replaceK p w k (c :: l) = c :: Lib.replaceK p w k l
  | 0 => rfl
  | k + 1 => by
    by_cases h1 : Lib.index l p = -1
    · have h2 : Lib.index (c :: l) p = -1 := by rw [Uq h, if_pos h1]
      simp [Lib.replaceK, h1, h2]
    · have hg := Lib.index_ge l p
      obtain ⟨i, hi⟩ : ∃ i : Nat, Lib.index l p = i := ⟨(Lib.index l p).toNat, by omega⟩
      rw [Lib.replaceK_hit _ _ _ _ i hi, Lib.replaceK_hit _ _ _ _ (i + 1) (by rw [Uq h, if_neg h1, hi]; omega), Nat.add_right_comm, List.drop_succ_cons]
      rfl
theorem repl_une : ∀ (n : Nat) (l : List UInt8), l.length ≤ n → Lib.replaceK [0, 255] [0] (Lib.count l [0, 255]) l = une l
  | _, [], _ => by simp [Lib.count, Lib.countFrom, Lib.index, Lib.replaceK, une]
  | n + 1, c :: l, hn => by
    by_cases h : ([0, 255] : List UInt8).isPrefixOf (c :: l) = true
    · have hi := index_pre h
      obtain ⟨m, rfl, rfl⟩ : ∃ m, c = 0 ∧ l = 255 :: m := by
        cases l with
        | nil => simp [List.isPrefixOf] at h
        | cons d m => simp [List.isPrefixOf] at h; exact ⟨m, h.1.symm, by rw [h.2]⟩
      rw [Lib.count_hit (i := 0) (by simp) hi, Nat.add_comm 1, Lib.replaceK_hit _ _ _ _ 0 hi]
      show [] ++ [0] ++ Lib.replaceK [0, 255] [0] (Lib.count m [0, 255]) m = _
      rw [repl_une n m (by simp at hn; omega), une, if_pos ⟨rfl, rfl⟩]
      rfl
    · rw [count_npre (by simp) h, replaceK_npre h, repl_une n l (by simp at hn; omega), une_other h]
theorem replaceAll_une (l : List UInt8) : Lib.replaceAll l [0, 255] [0] = une l := by
  unfold Lib.replaceAll Lib.replace Lib.replaceNum
  have h : ¬ (([0, 255] : List UInt8) == [0]) = true := by decide
  rw [if_neg h, if_pos (.inl (by decide))]
  exact repl_une l.length l (Nat.le_refl _)
theorem numF_lt : ∀ (l : List UInt8) (a : Nat), U4 a l < (a + 1) * 256 ^ l.length
  | [], a => by simp [U4]
  | c :: l, a => by
    have h := numF_lt l (a * 256 + c.toNat)
    have hc := c.toNat_lt
    rw [U4, List.length_cons, Nat.pow_succ]
    refine Nat.lt_of_lt_of_le h ?_
    rw [Nat.mul_comm (256 ^ l.length) 256, ← Nat.mul_assoc]
    exact Nat.mul_le_mul_right _ (by omega)
theorem numR_lt {s : List UInt8} {n : Nat} {inv : Bool} {u : Nat} {r : List UInt8} (h : Qi s n inv = some (u, r)) : u < 18446744073709551616 ∧ r.length ≤ s.length := by
  unfold Qi at h
  split at h
  · cases h
  · rename_i h1
    cases h
    have hl : (invL inv (s.take n)).length ≤ 8 := by cases inv <;> simp [invL] <;> omega
    have := numF_lt (invL inv (s.take n)) 0
    have h8 : (256 : Nat) ^ (invL inv (s.take n)).length ≤ 256 ^ 8 := Nat.pow_le_pow_right (by decide) hl
    have : (256 : Nat) ^ 8 = 18446744073709551616 := by decide
    refine ⟨by omega, by simp⟩
theorem wrap64_rng (a : Int) : -9223372036854775808 ≤ IntKind.wrap .i64 a ∧ IntKind.wrap .i64 a < 9223372036854775808 := by
  unfold IntKind.wrap
  simp only [IntKind.bits, IntKind.signed]
  simp
  split <;> omega
theorem tk_ok {k : Int} {s : List UInt8} (hl : s.length ≤ 1000) : XK (tk k s).1 ∧ (tk k s).2.1.length ≤ s.length := by
  cases s with
  | nil => exact ⟨⟨⟨by simp [tk], by simp [tk]⟩, ⟨by simp [tk], by simp [tk]⟩, by simp [tk]⟩, Nat.le_refl _⟩
  | cons c s =>
    show XK (tkC k c s).1 ∧ (tkC k c s).2.1.length ≤ (c :: s).length
    unfold tkC
    split
    · cases h : Qi s c.toNat false with
      | none => exact ⟨⟨⟨by decide, by decide⟩, ⟨by decide, by decide⟩, by simp [tkU]⟩, by simp [tkU]⟩
      | some p =>
        obtain ⟨h1, h2⟩ := numR_lt (u := p.1) (r := p.2) h
        exact ⟨⟨⟨by simp [tkU], by simp [tkU]; omega⟩, ⟨by simp [tkU], by simp [tkU]⟩, by simp [tkU]⟩, by simp [tkU]; omega⟩
    · split
      · split
        · cases h : Qi s (c.toNat - 128) false with
          | none => exact ⟨⟨⟨by decide, by decide⟩, ⟨by decide, by decide⟩, by simp [tkP]⟩, by simp [tkP]⟩
          | some p =>
            obtain ⟨h1, h2⟩ := numR_lt (u := p.1) (r := p.2) h
            exact ⟨⟨⟨by simp [tkP], by simp [tkP]⟩, wrap64_rng _, by simp [tkP]⟩, by simp [tkP]; omega⟩
        · cases h : Qi s (127 - c.toNat) true with
          | none => exact ⟨⟨⟨by decide, by decide⟩, ⟨by decide, by decide⟩, by simp [tkN]⟩, by simp [tkN]⟩
          | some p =>
            obtain ⟨h1, h2⟩ := numR_lt (u := p.1) (r := p.2) h
            exact ⟨⟨⟨by simp [tkN], by simp [tkN]⟩, wrap64_rng _, by simp [tkN]⟩, by simp [tkN]; omega⟩
      · split
        · unfold tkT
          split
          · exact ⟨⟨⟨by decide, by decide⟩, ⟨by decide, by decide⟩, by simp⟩, by simp⟩
          · refine ⟨⟨⟨by simp, by simp⟩, ⟨by simp, by simp⟩, ?_⟩, by dsimp only; rw [List.length_drop]; omega⟩
            rw [replaceAll_une]
            have := une_len ((c :: s).take (Lib.index (c :: s) [0, 1]).toNat)
            have h2 : ((c :: s).take (Lib.index (c :: s) [0, 1]).toNat).length ≤ (c :: s).length := by simp; omega
            dsimp only
            rw [YT]
            omega
        · exact ⟨⟨⟨by simp, by simp⟩, ⟨by simp, by simp⟩, by simp⟩, by simp⟩
structure SinceE {α : Type} (E : Enc α) (e : TypeId) (H0 H : AHeap) (v : Value) (l : List α) : Prop where
  still : Yq H0 H
  own : Own E H e v l
  new : ∀ b, Yk v = some b → H0.n ≤ b
section
variable {α : Type} {E : Enc α} {e : TypeId}
theorem SinceE.nil {H : AHeap} : SinceE E e H H (.slice none 0 0) [] := ⟨Fr.refl H, .inl ⟨rfl, rfl⟩, fun b h => by cases h⟩
theorem SinceE.to {H0 H H' : AHeap} {v : Value} {l : List α} (r : SinceE E e H0 H v l) (s : Yq H H') : SinceE E e H0 H' v l := ⟨r.still.trans s, r.own.still s, r.new⟩
theorem SinceE.app {H0 H : AHeap} {v : Value} {l : List α} (r : SinceE E e H0 H v l) (m : List α) {sz bytes : Nat} (hsz : sz = E.w) (hb : bytes ≤ 1000) {src : Option (Nat × List Value)} (hsrc : src = some (m.length, E.cells m)) (hl : l.length + m.length ≤ 1000000) :
    ∃ v' H', Eng.app e sz bytes v src H = some (v', H') ∧ SinceE E e H0 H' v' (l ++ m) := by
  have hmul : (l.length + m.length) * bytes ≤ 1000000 * 1000 := Nat.mul_le_mul hl hb
  obtain ⟨v', H', e1, e2, e3, e4⟩ := r.own.appA m (sz := sz) (bytes := bytes) hsz (by omega) (by omega) hsrc
  refine ⟨v', H', e1, r.still.then e3 fun b hb h => ?_, e2, fun b h => ?_⟩
  · unfold WP at h; have := r.new b h; omega
  · rcases e4 with h4 | h4
    · rw [h4] at h; exact r.new b h
    · rw [h4] at h; cases h; exact r.still.n
theorem newE {H : AHeap} {l : List α} {b : Nat} (hb : b < H.n) (hf : H.f b = .cells (E.cells l) e true) : RdS E e H (.slice (some ⟨b, 0, none⟩) l.length (2 * l.length)) l := by
  refine ⟨?_, .inr ⟨b, 0, _, _, rfl, by omega, .inl (by omega), hb⟩⟩
  by_cases h0 : l = []
  · subst h0; exact .inr (.inl ⟨rfl, _, _, rfl, rfl⟩)
  · refine .inr (.inr ⟨b, 0, _, rfl, h0, hb, ?_⟩)
    rw [hf, cutB_c (by simp), List.drop_zero, List.take_of_length_le (by simp)]
theorem SinceE.lit {H0 H : AHeap} {v : Value} {l : List α} (r : SinceE E e H0 H v l) (m : List α) {sz bytes : Nat} (hsz : sz = E.w) (hby : bytes ≤ 1000) {H1 : AHeap} (h1 : H.push (.cells (E.cells m) e true) = H1) (hb : l.length + m.length ≤ 1000000) :
    ∃ v' H', Eng.app e sz bytes v (Vn sz (.slice (some ⟨H.n, 0, none⟩) m.length (2 * m.length)) H1) H1 = some (v', H') ∧ SinceE E e H0 H' v' (l ++ m) := by
  have s1 : Yq H H1 := by rw [← h1]; exact (Fr.refl H).push _
  have n1 : H1.n = H.n + 1 := by rw [← h1]; rfl
  have f1 : H1.f H.n = .cells (E.cells m) e true := by rw [← h1]; exact Yu rfl
  have rm : RdS E e H1 (.slice (some ⟨H.n, 0, none⟩) m.length (2 * m.length)) m := newE (by omega) f1
  exact (r.to s1).app m hsz hby (rm.1.src hsz) hb
end
end Go.Proofs.YtmiinbhnfojnbaaDoor

set_option maxRecDepth 10000
namespace Go.Proofs.YtmiinbhnfojnbaaDoor
open Go Eng
def UP : List Int → List UInt8 → Option (List Cl)
  | [], _ => some []
  | k :: ks, s => if (tk k s).2.2 = true then (UP ks (tk k s).2.1).map ((tk k s).1 :: ·) else none
theorem takesP_ok : ∀ (ks : List Int) (s : List UInt8) (l : List Cl), s.length ≤ 1000 → UP ks s = some l → l.length = ks.length ∧ ∀ c ∈ l, XK c
  | [], s, l, _, h => by cases h; exact ⟨rfl, by simp⟩
  | k :: ks, s, l, hs, h => by
    unfold UP at h
    split at h
    · obtain ⟨m, h1, rfl⟩ := Option.map_eq_some_iff.1 h
      have h2 := tk_ok (k := k) hs
      have := takesP_ok ks _ m (by omega) h1
      refine ⟨by simp [this.1], fun c hc => ?_⟩
      rcases List.mem_cons.1 hc with rfl | hc
      · exact h2.1
      · exact this.2 c hc
    · cases h
set_option maxHeartbeats 1000000 in
theorem l_Read1 (v1 v2 v3 v27 v28 v29 kv : Value) (kl : List Int) (H0 : AHeap) (hk : KR H0 kv kl) (hkl : kl.length ≤ 8) (hkk : ∀ k ∈ kl, Vi k = true) : ∀ (t : List Int) (i : Nat) (H : AHeap) (v : Value) (o : List Cl) (s : List UInt8), kl.drop i = t → s.length ≤ 1000 → o.length ≤ 100 + i → SinceE ECl T.api_Cell H0 H v o →
    (UP t s = none → ∃ H', Yq H0 H' ∧ ∀ K : K, Xh v1 v2 v3 v (.string (mk s)) v27 v28 v29 kv (.int .i64 (kl.length : Int)) (.int .i64 (i : Int)) H (YI [1, 2, 3, 8, 27, 28, 29] 2 K) = K .ret [(6, .slice none 0 0), (7, .int .i64 12)] H') ∧
    (∀ l, UP t s = some l → ∃ v' H', SinceE ECl T.api_Cell H0 H' v' (o ++ l) ∧ ∀ K : K, Xh v1 v2 v3 v (.string (mk s)) v27 v28 v29 kv (.int .i64 (kl.length : Int)) (.int .i64 (i : Int)) H (YI [1, 2, 3, 8, 27, 28, 29] 2 K) = K .normal [(1, v1), (2, v2), (3, v3), (8, v'), (27, v27), (28, v28), (29, v29)] H')
  | [], i, H, v, o, s, hx, hs, ho, so => by
    have h : kl.length ≤ i := List.drop_eq_nil_iff.1 hx
    have hlt : ¬ (i : Int) < (kl.length : Int) := by omega
    refine ⟨fun h => (by simp [UP] at h), fun l hl => ?_⟩
    cases hl
    refine ⟨v, H, by simpa using so, fun K => ?_⟩
    rw [Qf]
    simp (disch := first | with_reducible rfl | assumption | omega | rfl | (simp only [go_sem]; first | done | omega)) only [go_sem, ↓reduceIte, reduceCtorEq, Nat.reduceEqDiff, Nat.reduceAdd, Nat.reduceSub, Nat.reduceMul, Nat.reduceDiv, Nat.reduceMod, Nat.reduceLeDiff, Nat.reduceLT, Nat.reduceBEq, Int.reduceEq, Int.reduceBEq, Int.reduceBNe, Int.reduceLT, Int.reduceLE, Int.reduceAdd, Int.reduceSub, Int.reduceNeg, Int.reduceToNat, Int.reducePow, Nat.reducePow, Int.reduceMul, Int.reduceDiv, ↓W4, hlt]
  | k :: t, i, H, v, o, s, hx, hs, ho, so => by
    obtain ⟨h, hxa, hx'⟩ := WB hx
    have hlt : (i : Int) < (kl.length : Int) := by omega
    obtain ⟨b2, o2, i2, c2⟩ := rd_kind (hk.still so.still) h (iv := (i : Int)) rfl
    rw [hxa] at c2
    have hkp := hkk k (by rw [← hxa]; exact List.getElem_mem h)
    have m := q_take k s H hkp (by omega)
    have hok := tk_ok (k := k) hs
    unfold UP
    obtain ⟨⟨⟨ck, cu, ci, cs, cb⟩, r, ok⟩, hy⟩ : ∃ y, tk k s = y := ⟨_, rfl⟩
    rw [hy] at m hok ⊢
    dsimp only at hok ⊢
    have m : CC F.rows_take [.string (mk s), .int .i64 k] H = some (.tuple #[.agg ⟨[.int .i64 ck, .int .u64 cu, .int .i64 ci, .string cs, .bool cb]⟩, .string (mk r), .bool ok], H) := m
    obtain ⟨H1, hH1⟩ : ∃ H1, (H.push (.cells [.int .i64 0, .int .u64 0, .int .i64 0, .string (mk []), .bool false] T.api_Cell true)).set H.n (.cells [.int .i64 ck, .int .u64 cu, .int .i64 ci, .string cs, .bool cb] T.api_Cell true) = H1 := ⟨_, rfl⟩
    have s1 : Yq H H1 := by rw [← hH1]; exact Fr.set ((Fr.refl H).push _) _ _ (fun h => by omega)
    have f1 : H1.f H.n = .cells [.int .i64 ck, .int .u64 cu, .int .i64 ci, .string cs, .bool cb] T.api_Cell true := by rw [← hH1]; exact YC
    cases ok with
    | false =>
      refine ⟨fun _ => ⟨H1, so.still.trans s1, fun K => ?_⟩, fun l h => by simp at h⟩
      rw [Qf]
      simp (disch := first | with_reducible rfl | assumption | omega | rfl | (simp only [go_sem]; first | done | omega)) only [go_sem, ↓reduceIte, reduceCtorEq, Nat.reduceEqDiff, Nat.reduceAdd, Nat.reduceSub, Nat.reduceMul, Nat.reduceDiv, Nat.reduceMod, Nat.reduceLeDiff, Nat.reduceLT, Nat.reduceBEq, Int.reduceEq, Int.reduceBEq, Int.reduceBNe, Int.reduceLT, Int.reduceLE, Int.reduceAdd, Int.reduceSub, Int.reduceNeg, Int.reduceToNat, Int.reducePow, Nat.reducePow, Int.reduceMul, Int.reduceDiv, ↓W4, hlt, i2, c2, ↓Ya m, Ya m, hH1]
    | true =>
      rw [if_pos rfl]
      obtain ⟨H2, hH2⟩ : ∃ H2, H1.push (.cells [.int .i64 ck, .int .u64 cu, .int .i64 ci, .string cs, .bool cb] T.api_Cell true) = H2 := ⟨_, rfl⟩
      have hH2' : H1.push (.cells (ECl.cells [⟨ck, cu, ci, cs, cb⟩]) T.api_Cell true) = H2 := hH2
      obtain ⟨v3', H3, a3, s3⟩ := (so.to s1).lit (sz := 5) (bytes := 48) [⟨ck, cu, ci, cs, cb⟩] rfl (by decide) hH2' (by simp; omega)
      have a3 : Eng.app T.api_Cell 5 48 v (Vn 5 (.slice (some ⟨H1.n, 0, none⟩) 1 2) H2) H2 = some (v3', H3) := a3
      obtain ⟨k1, k2⟩ := l_Read1 v1 v2 v3 v27 v28 v29 kv kl H0 hk hkl hkk t (i + 1) H3 v3' (o ++ [⟨ck, cu, ci, cs, cb⟩]) r hx' (by omega) (by simp; omega) s3
      rw [Int.natCast_add] at k1 k2
      refine ⟨fun h3 => ?_, fun l h3 => ?_⟩
      · obtain ⟨H', s', e'⟩ := k1 (by cases hq : UP t r with | none => rfl | some q => rw [hq] at h3; cases h3)
        refine ⟨H', s', fun K => ?_⟩
        have := e' K
        rw [Qf]
        simp (disch := first | with_reducible rfl | assumption | omega | rfl | (simp only [go_sem]; first | done | omega)) only [go_sem, ↓reduceIte, reduceCtorEq, Nat.reduceEqDiff, Nat.reduceAdd, Nat.reduceSub, Nat.reduceMul, Nat.reduceDiv, Nat.reduceMod, Nat.reduceLeDiff, Nat.reduceLT, Nat.reduceBEq, Int.reduceEq, Int.reduceBEq, Int.reduceBNe, Int.reduceLT, Int.reduceLE, Int.reduceAdd, Int.reduceSub, Int.reduceNeg, Int.reduceToNat, Int.reducePow, Nat.reducePow, Int.reduceMul, Int.reduceDiv, ↓W4, hlt, i2, c2, ↓Ya m, Ya m, hH1, f1, hH2, a3]
        exact this
      · obtain ⟨l', h4, rfl⟩ := Option.map_eq_some_iff.1 h3
        obtain ⟨v', H', s', e'⟩ := k2 l' h4
        refine ⟨v', H', by simpa using s', fun K => ?_⟩
        have := e' K
        rw [Qf]
        simp (disch := first | with_reducible rfl | assumption | omega | rfl | (simp only [go_sem]; first | done | omega)) only [go_sem, ↓reduceIte, reduceCtorEq, Nat.reduceEqDiff, Nat.reduceAdd, Nat.reduceSub, Nat.reduceMul, Nat.reduceDiv, Nat.reduceMod, Nat.reduceLeDiff, Nat.reduceLT, Nat.reduceBEq, Int.reduceEq, Int.reduceBEq, Int.reduceBNe, Int.reduceLT, Int.reduceLE, Int.reduceAdd, Int.reduceSub, Int.reduceNeg, Int.reduceToNat, Int.reducePow, Nat.reducePow, Int.reduceMul, Int.reduceDiv, ↓W4, hlt, i2, c2, ↓Ya m, Ya m, hH1, f1, hH2, a3]
        exact this
end Go.Proofs.YtmiinbhnfojnbaaDoor

set_option maxRecDepth 10000
namespace Go.Proofs.YtmiinbhnfojnbaaDoor
open Go Eng
def readP (kl rl : List Int) (kt val : List UInt8) : Option (List Cl) := (UP kl kt).bind fun a => (UP rl val).map (a ++ ·)
def readR (n : Int) (kl rl : List Int) (key val : List UInt8) : List Cl × Int :=
  if Uh n kl rl = true then
    (match key with
     | [] => ([], 12)
     | _ :: kt => match readP kl rl kt val with
       | none => ([], 12)
       | some out => if rowR n kl rl out = (key, val, 0) then (out, 0) else ([], 12))
  else ([], 2)
theorem okk {n : Int} {kl rl : List Int} (h : Uh n kl rl = true) : (∀ k ∈ kl, Vi k = true) ∧ (∀ k ∈ rl, Vi k = true) ∧ 1 ≤ kl.length := by
  unfold Uh at h
  simp only [Bool.and_eq_true, decide_eq_true_eq, List.all_append, List.all_eq_true] at h
  exact ⟨h.2.2.2.2.2.1, h.2.2.2.2.2.2, h.2.2.1⟩
theorem Q6 {n : Int} {kv rv : Value} {kl rl : List Int} {key val : List UInt8} {H : AHeap} {e : Int} (h : CC F.rows_Read [tbV n kv rv, .string (mk key), .string (mk val)] H = some (.tuple #[.slice none 0 0, .int .i64 e], H)) (hr : readR n kl rl key val = ([], e)) :
    ∃ v' H', CC F.rows_Read [tbV n kv rv, .string (mk key), .string (mk val)] H = some (.tuple #[v', .int .i64 (readR n kl rl key val).2], H') ∧ SinceE ECl T.api_Cell H H' v' (readR n kl rl key val).1 := by
  rw [hr]
  exact ⟨_, _, h, SinceE.nil⟩
set_option maxHeartbeats 2000000 in
theorem q_Read (n : Int) (kv rv : Value) (kl rl : List Int) (key val : List UInt8) (H : AHeap) (ok : OkH H) (hk : KR H kv kl) (hr : KR H rv rl) (hkl : key.length ≤ 1000) (hvl : val.length ≤ 1000) :
    ∃ v' H', CC F.rows_Read [tbV n kv rv, .string (mk key), .string (mk val)] H = some (.tuple #[v', .int .i64 (readR n kl rl key val).2], H') ∧ SinceE ECl T.api_Cell H H' v' (readR n kl rl key val).1 := by
  obtain ⟨H1, hH1⟩ : ∃ H1, H.push (.cells [.int .i64 n, kv, rv] T.api_Table true) = H1 := ⟨_, rfl⟩
  have s1 : Yq H H1 := by rw [← hH1]; exact (Fr.refl H).push _
  have n1 : H1.n = H.n + 1 := by rw [← hH1]; rfl
  have f1 : H1.f H.n = .cells [.int .i64 n, kv, rv] T.api_Table true := by rw [← hH1]; exact Yu rfl
  have m1 := q_Valid n kv rv kl rl H1 (hk.still s1) (hr.still s1)
  cases hv : Uh n kl rl with
  | false =>
    rw [hv] at m1
    refine Q6 (e := 2) ?_ (by unfold readR; rw [if_neg (by rw [hv]; decide)])
    apply Yj _ (Vh _ _ _ H) rfl
    rotate_left 2
    · simp (disch := first | with_reducible rfl | assumption | omega | rfl | (simp only [go_sem]; first | done | omega)) only [go_sem, ↓reduceIte, reduceCtorEq, Nat.reduceEqDiff, Nat.reduceAdd, Nat.reduceSub, Nat.reduceMul, Nat.reduceDiv, Nat.reduceMod, Nat.reduceLeDiff, Nat.reduceLT, Nat.reduceBEq, Int.reduceEq, Int.reduceBEq, Int.reduceBNe, Int.reduceLT, Int.reduceLE, Int.reduceAdd, Int.reduceSub, Int.reduceNeg, Int.reduceToNat, Int.reducePow, Nat.reducePow, Int.reduceMul, Int.reduceDiv, ↓XV, hH1, f1, ↓Ya m1, Ya m1]
      rfl
    · exact s1
  | true =>
  rw [hv] at m1
  obtain ⟨hkk, hrk, hk1⟩ := okk hv
  obtain ⟨_, _, hk8, hr8⟩ := validP_n hv
  cases key with
  | nil =>
    refine Q6 (e := 12) ?_ (by unfold readR; rw [if_pos hv])
    apply Yj _ (Vh _ _ _ H) rfl
    rotate_left 2
    · simp (disch := first | with_reducible rfl | assumption | omega | rfl | (simp only [go_sem]; first | done | omega)) only [go_sem, ↓reduceIte, reduceCtorEq, Nat.reduceEqDiff, Nat.reduceAdd, Nat.reduceSub, Nat.reduceMul, Nat.reduceDiv, Nat.reduceMod, Nat.reduceLeDiff, Nat.reduceLT, Nat.reduceBEq, Int.reduceEq, Int.reduceBEq, Int.reduceBNe, Int.reduceLT, Int.reduceLE, Int.reduceAdd, Int.reduceSub, Int.reduceNeg, Int.reduceToNat, Int.reducePow, Nat.reducePow, Int.reduceMul, Int.reduceDiv, ↓XV, hH1, f1, ↓Ya m1, Ya m1, YT]
      rfl
    · exact s1
  | cons c kt =>
  have hktl : kt.length ≤ 1000 := by simp at hkl; omega
  have a1 := slT_lo (s := mk (c :: kt)) (q := .i64) (i := 1) (by rw [YT]; simp)
  rw [YT] at a1
  have a1 : slT (.string (mk (c :: kt))) (some (.int .i64 1)) none = some (.string (mk kt)) := a1
  have hne : ¬ (c :: kt = []) := by simp
  obtain ⟨key, hkey⟩ : ∃ key, c :: kt = key := ⟨_, rfl⟩
  have eR : readR n kl rl (c :: kt) val = (match readP kl rl kt val with | none => ([], 12) | some out => if rowR n kl rl out = (c :: kt, val, 0) then (out, 0) else ([], 12)) := by
    show (if Uh n kl rl = true then _ else _) = _
    rw [if_pos hv]
  rw [hkey] at a1 hne eR ⊢
  obtain ⟨H2, hH2⟩ : ∃ H2, H1.push (.cells [.string (mk kt), .string (mk val)] T.string true) = H2 := ⟨_, rfl⟩
  have s2 : Yq H1 H2 := by rw [← hH2]; exact (Fr.refl H1).push _
  have n2 : H2.n = H1.n + 1 := by rw [← hH2]; rfl
  have f2 : H2.f H1.n = .cells [.string (mk kt), .string (mk val)] T.string true := by rw [← hH2]; exact Yu rfl
  have g2 : H2.f H.n = .cells [.int .i64 n, kv, rv] T.api_Table true := by rw [s2.f (by omega) fun h => h]; exact f1
  obtain ⟨H3, hH3⟩ : ∃ H3, H2.push (.cells [kv, rv] T.sl_api_CellKind true) = H3 := ⟨_, rfl⟩
  have s3 : Yq H2 H3 := by rw [← hH3]; exact (Fr.refl H2).push _
  have n3 : H3.n = H2.n + 1 := by rw [← hH3]; rfl
  have f3 : H3.f H2.n = .cells [kv, rv] T.sl_api_CellKind true := by rw [← hH3]; exact Yu rfl
  have s03 : Yq H H3 := (s1.trans s2).trans s3
  have lk := hk.1.lenS
  have lr := hr.1.lenS
  have sx : Value.slice (some ⟨H1.n, 0, none⟩) 2 4 = .slice (some ⟨H1.n, 0, none⟩) 2 4 := rfl
  obtain ⟨w, hw⟩ : ∃ w, Value.slice (some ⟨H1.n, 0, none⟩) 2 4 = w := ⟨_, rfl⟩
  have wl : lenS w = some (.int .i64 2) := by rw [← hw]; rfl
  have w0 : ixS 1 w (.int .i64 0) = some (.pointer (some ⟨H1.n, 0, none⟩)) := by rw [← hw]; rfl
  have w1 : ixS 1 w (.int .i64 1) = some (.pointer (some ⟨H1.n, 1, none⟩)) := by rw [← hw]; rfl
  have bl0 : ∀ H, UC T.sl_api_CellKind [.slice none 0 0] 2 [(0, kv), (1, rv)] H = some (.slice (some ⟨H.n, 0, none⟩) 2 4, H.push (.cells [kv, rv] T.sl_api_CellKind true)) := fun H => by
    obtain ⟨a, cc, e⟩ := hk.1.shape; obtain ⟨a', cc', e'⟩ := hr.1.shape; rw [e, e']; rfl
  obtain ⟨p1, p2⟩ := l_Read1 (.string (mk key)) (.string (mk val)) (.pointer (some ⟨H.n, 0, none⟩)) w (.int .i64 2) (.int .i64 0) kv kl H3 (hk.still s03) hk8 hkk kl 0 H3 (.slice none 0 0) [] kt (by simp) hktl (by simp) SinceE.nil
  cases ha : UP kl kt with
  | none =>
    obtain ⟨H4, s4, e4⟩ := p1 ha
    have e4 : ∀ K : K, Xh (.string (mk key)) (.string (mk val)) (.pointer (some ⟨H.n, 0, none⟩)) (.slice none 0 0) (.string (mk kt)) w (.int .i64 2) (.int .i64 0) kv (.int .i64 (kl.length : Int)) (.int .i64 0) H3 (YI [1, 2, 3, 8, 27, 28, 29] 2 K) = K .ret [(6, .slice none 0 0), (7, .int .i64 12)] H4 := e4
    have eP : readP kl rl kt val = none := by unfold readP; rw [ha]; rfl
    refine Q6 (kl := kl) (rl := rl) (e := 12) ?_ (by rw [eR, eP])
    have z : ∀ K : K, Xi (.string (mk key)) (.string (mk val)) (.pointer (some ⟨H.n, 0, none⟩)) (.slice none 0 0) w (.int .i64 2) (.int .i64 0) H2 (YI [1, 2, 3, 8] 0 K) = K .ret [(6, .slice none 0 0), (7, .int .i64 12)] H4 := fun K => by
      rw [Vw]
      simp (disch := first | with_reducible rfl | assumption | omega | rfl | (simp only [go_sem]; first | done | omega)) only [go_sem, ↓reduceIte, reduceCtorEq, Nat.reduceEqDiff, Nat.reduceAdd, Nat.reduceSub, Nat.reduceMul, Nat.reduceDiv, Nat.reduceMod, Nat.reduceLeDiff, Nat.reduceLT, Nat.reduceBEq, Int.reduceEq, Int.reduceBEq, Int.reduceBNe, Int.reduceLT, Int.reduceLE, Int.reduceAdd, Int.reduceSub, Int.reduceNeg, Int.reduceToNat, Int.reducePow, Nat.reducePow, Int.reduceMul, Int.reduceDiv, ↓We, w0, f2, g2, ↓bl0, hH3, f3, lk, e4]
    apply Yj _ (Vh _ _ _ H) rfl
    rotate_left 2
    · simp (disch := first | with_reducible rfl | assumption | omega | rfl | (simp only [go_sem]; first | done | omega)) only [go_sem, ↓reduceIte, reduceCtorEq, Nat.reduceEqDiff, Nat.reduceAdd, Nat.reduceSub, Nat.reduceMul, Nat.reduceDiv, Nat.reduceMod, Nat.reduceLeDiff, Nat.reduceLT, Nat.reduceBEq, Int.reduceEq, Int.reduceBEq, Int.reduceBNe, Int.reduceLT, Int.reduceLE, Int.reduceAdd, Int.reduceSub, Int.reduceNeg, Int.reduceToNat, Int.reducePow, Nat.reducePow, Int.reduceMul, Int.reduceDiv, ↓XV, hH1, f1, ↓Ya m1, Ya m1, YT, hne, a1, hH2, hw, wl, z]
      rfl
    · exact s03.trans s4
  | some la =>
  obtain ⟨va, H4, so4, e4⟩ := p2 la ha
  have e4 : ∀ K : K, Xh (.string (mk key)) (.string (mk val)) (.pointer (some ⟨H.n, 0, none⟩)) (.slice none 0 0) (.string (mk kt)) w (.int .i64 2) (.int .i64 0) kv (.int .i64 (kl.length : Int)) (.int .i64 0) H3 (YI [1, 2, 3, 8, 27, 28, 29] 2 K) = K .normal [(1, .string (mk key)), (2, .string (mk val)), (3, .pointer (some ⟨H.n, 0, none⟩)), (8, va), (27, w), (28, .int .i64 2), (29, .int .i64 0)] H4 := e4
  rw [List.nil_append] at so4
  obtain ⟨hla, hca⟩ := takesP_ok kl kt la hktl ha
  have f4 : H4.f H1.n = .cells [.string (mk kt), .string (mk val)] T.string true := by rw [(s3.trans so4.still).f (by omega) fun h => h]; exact f2
  have g4 : H4.f H.n = .cells [.int .i64 n, kv, rv] T.api_Table true := by rw [(s3.trans so4.still).f (by omega) fun h => h]; exact g2
  obtain ⟨H5, hH5⟩ : ∃ H5, H4.push (.cells [kv, rv] T.sl_api_CellKind true) = H5 := ⟨_, rfl⟩
  have s5 : Yq H4 H5 := by rw [← hH5]; exact (Fr.refl H4).push _
  have f5 : H5.f H4.n = .cells [kv, rv] T.sl_api_CellKind true := by rw [← hH5]; exact Yu rfl
  obtain ⟨p1, p2⟩ := l_Read1 (.string (mk key)) (.string (mk val)) (.pointer (some ⟨H.n, 0, none⟩)) w (.int .i64 2) (.int .i64 1) rv rl H3 (hr.still s03) hr8 hrk rl 0 H5 va la val (by simp) hvl (by omega) (so4.to s5)
  cases hb : UP rl val with
  | none =>
    obtain ⟨H6, s6, e6⟩ := p1 hb
    have e6 : ∀ K : K, Xh (.string (mk key)) (.string (mk val)) (.pointer (some ⟨H.n, 0, none⟩)) va (.string (mk val)) w (.int .i64 2) (.int .i64 1) rv (.int .i64 (rl.length : Int)) (.int .i64 0) H5 (YI [1, 2, 3, 8, 27, 28, 29] 2 K) = K .ret [(6, .slice none 0 0), (7, .int .i64 12)] H6 := e6
    have eP : readP kl rl kt val = none := by unfold readP; rw [ha, hb]; rfl
    refine Q6 (kl := kl) (rl := rl) (e := 12) ?_ (by rw [eR, eP])
    have z1 : ∀ K : K, Xi (.string (mk key)) (.string (mk val)) (.pointer (some ⟨H.n, 0, none⟩)) va w (.int .i64 2) (.int .i64 1) H4 (YI [1, 2, 3, 8] 0 K) = K .ret [(6, .slice none 0 0), (7, .int .i64 12)] H6 := fun K => by
      rw [Vw]
      simp (disch := first | with_reducible rfl | assumption | omega | rfl | (simp only [go_sem]; first | done | omega)) only [go_sem, ↓reduceIte, reduceCtorEq, Nat.reduceEqDiff, Nat.reduceAdd, Nat.reduceSub, Nat.reduceMul, Nat.reduceDiv, Nat.reduceMod, Nat.reduceLeDiff, Nat.reduceLT, Nat.reduceBEq, Int.reduceEq, Int.reduceBEq, Int.reduceBNe, Int.reduceLT, Int.reduceLE, Int.reduceAdd, Int.reduceSub, Int.reduceNeg, Int.reduceToNat, Int.reducePow, Nat.reducePow, Int.reduceMul, Int.reduceDiv, ↓We, w1, f4, g4, ↓bl0, hH5, f5, lr, e6]
    have z : ∀ K : K, Xi (.string (mk key)) (.string (mk val)) (.pointer (some ⟨H.n, 0, none⟩)) (.slice none 0 0) w (.int .i64 2) (.int .i64 0) H2 (YI [1, 2, 3, 8] 0 K) = K .ret [(6, .slice none 0 0), (7, .int .i64 12)] H6 := fun K => by
      have := z1 K
      rw [Vw]
      simp (disch := first | with_reducible rfl | assumption | omega | rfl | (simp only [go_sem]; first | done | omega)) only [go_sem, ↓reduceIte, reduceCtorEq, Nat.reduceEqDiff, Nat.reduceAdd, Nat.reduceSub, Nat.reduceMul, Nat.reduceDiv, Nat.reduceMod, Nat.reduceLeDiff, Nat.reduceLT, Nat.reduceBEq, Int.reduceEq, Int.reduceBEq, Int.reduceBNe, Int.reduceLT, Int.reduceLE, Int.reduceAdd, Int.reduceSub, Int.reduceNeg, Int.reduceToNat, Int.reducePow, Nat.reducePow, Int.reduceMul, Int.reduceDiv, ↓We, w0, f2, g2, ↓bl0, hH3, f3, lk, e4]
      exact this
    apply Yj _ (Vh _ _ _ H) rfl
    rotate_left 2
    · simp (disch := first | with_reducible rfl | assumption | omega | rfl | (simp only [go_sem]; first | done | omega)) only [go_sem, ↓reduceIte, reduceCtorEq, Nat.reduceEqDiff, Nat.reduceAdd, Nat.reduceSub, Nat.reduceMul, Nat.reduceDiv, Nat.reduceMod, Nat.reduceLeDiff, Nat.reduceLT, Nat.reduceBEq, Int.reduceEq, Int.reduceBEq, Int.reduceBNe, Int.reduceLT, Int.reduceLE, Int.reduceAdd, Int.reduceSub, Int.reduceNeg, Int.reduceToNat, Int.reducePow, Nat.reducePow, Int.reduceMul, Int.reduceDiv, ↓XV, hH1, f1, ↓Ya m1, Ya m1, YT, hne, a1, hH2, hw, wl, z]
      rfl
    · exact s03.trans s6
  | some lb =>
  obtain ⟨vb, H6, so6, e6⟩ := p2 lb hb
  have e6 : ∀ K : K, Xh (.string (mk key)) (.string (mk val)) (.pointer (some ⟨H.n, 0, none⟩)) va (.string (mk val)) w (.int .i64 2) (.int .i64 1) rv (.int .i64 (rl.length : Int)) (.int .i64 0) H5 (YI [1, 2, 3, 8, 27, 28, 29] 2 K) = K .normal [(1, .string (mk key)), (2, .string (mk val)), (3, .pointer (some ⟨H.n, 0, none⟩)), (8, vb), (27, w), (28, .int .i64 2), (29, .int .i64 1)] H6 := e6
  obtain ⟨hlb, hcb⟩ := takesP_ok rl val lb hvl hb
  have eP : readP kl rl kt val = some (la ++ lb) := by unfold readP; rw [ha, hb]; rfl
  obtain ⟨L, hL⟩ : ∃ L, la ++ lb = L := ⟨_, rfl⟩
  have hLl : 1 ≤ L.length ∧ L.length ≤ 100 := by rw [← hL, List.length_append]; omega
  have hLc : ∀ x ∈ L, XK x := fun x hx => by
    rw [← hL] at hx
    rcases List.mem_append.1 hx with h | h
    · exact hca x h
    · exact hcb x h
  rw [hL] at eP so6
  rw [eP] at eR
  have eR : readR n kl rl key val = if rowR n kl rl L = (key, val, 0) then (L, 0) else ([], 12) := eR
  have s06 : Yq H H6 := s03.trans so6.still
  have g6 : H6.f H.n = .cells [.int .i64 n, kv, rv] T.api_Table true := by rw [(s3.trans so6.still).f (by omega) fun h => h]; exact g2
  have z2 : ∀ K : K, Xi (.string (mk key)) (.string (mk val)) (.pointer (some ⟨H.n, 0, none⟩)) vb w (.int .i64 2) (.int .i64 2) H6 (YI [1, 2, 3, 8] 0 K) = K .normal [(1, .string (mk key)), (2, .string (mk val)), (3, .pointer (some ⟨H.n, 0, none⟩)), (8, vb)] H6 := fun K => by
    rw [Vw]
    simp (disch := first | with_reducible rfl | assumption | omega | rfl | (simp only [go_sem]; first | done | omega)) only [go_sem, ↓reduceIte, reduceCtorEq, Nat.reduceEqDiff, Nat.reduceAdd, Nat.reduceSub, Nat.reduceMul, Nat.reduceDiv, Nat.reduceMod, Nat.reduceLeDiff, Nat.reduceLT, Nat.reduceBEq, Int.reduceEq, Int.reduceBEq, Int.reduceBNe, Int.reduceLT, Int.reduceLE, Int.reduceAdd, Int.reduceSub, Int.reduceNeg, Int.reduceToNat, Int.reducePow, Nat.reducePow, Int.reduceMul, Int.reduceDiv, ↓We]
  have z1 : ∀ K : K, Xi (.string (mk key)) (.string (mk val)) (.pointer (some ⟨H.n, 0, none⟩)) va w (.int .i64 2) (.int .i64 1) H4 (YI [1, 2, 3, 8] 0 K) = K .normal [(1, .string (mk key)), (2, .string (mk val)), (3, .pointer (some ⟨H.n, 0, none⟩)), (8, vb)] H6 := fun K => by
    have := z2 K
    rw [Vw]
    simp (disch := first | with_reducible rfl | assumption | omega | rfl | (simp only [go_sem]; first | done | omega)) only [go_sem, ↓reduceIte, reduceCtorEq, Nat.reduceEqDiff, Nat.reduceAdd, Nat.reduceSub, Nat.reduceMul, Nat.reduceDiv, Nat.reduceMod, Nat.reduceLeDiff, Nat.reduceLT, Nat.reduceBEq, Int.reduceEq, Int.reduceBEq, Int.reduceBNe, Int.reduceLT, Int.reduceLE, Int.reduceAdd, Int.reduceSub, Int.reduceNeg, Int.reduceToNat, Int.reducePow, Nat.reducePow, Int.reduceMul, Int.reduceDiv, ↓We, w1, f4, g4, ↓bl0, hH5, f5, lr, e6]
    exact this
  have z : ∀ K : K, Xi (.string (mk key)) (.string (mk val)) (.pointer (some ⟨H.n, 0, none⟩)) (.slice none 0 0) w (.int .i64 2) (.int .i64 0) H2 (YI [1, 2, 3, 8] 0 K) = K .normal [(1, .string (mk key)), (2, .string (mk val)), (3, .pointer (some ⟨H.n, 0, none⟩)), (8, vb)] H6 := fun K => by
    have := z1 K
    rw [Vw]
    simp (disch := first | with_reducible rfl | assumption | omega | rfl | (simp only [go_sem]; first | done | omega)) only [go_sem, ↓reduceIte, reduceCtorEq, Nat.reduceEqDiff, Nat.reduceAdd, Nat.reduceSub, Nat.reduceMul, Nat.reduceDiv, Nat.reduceMod, Nat.reduceLeDiff, Nat.reduceLT, Nat.reduceBEq, Int.reduceEq, Int.reduceBEq, Int.reduceBNe, Int.reduceLT, Int.reduceLE, Int.reduceAdd, Int.reduceSub, Int.reduceNeg, Int.reduceToNat, Int.reducePow, Nat.reducePow, Int.reduceMul, Int.reduceDiv, ↓We, w0, f2, g2, ↓bl0, hH3, f3, lk, e4]
    exact this
  have m6 := q_Row' n kv rv kl rl L vb H6 (s06.ok ok) (hk.still s06) (hr.still s06) so6.own.sl hLl.2 hLc
  obtain ⟨⟨ra, rb, re⟩, hrow⟩ : ∃ y, rowR n kl rl L = y := ⟨_, rfl⟩
  rw [hrow] at m6 eR
  dsimp only at m6
  by_cases hre : re = 0
  · by_cases hra : ra = key
    · by_cases hrb : rb = val
      · have hre' : (re = 0) = True := by simp [hre]
        have hra' : (ra = key) = True := by simp [hra]
        have hrb' : (rb = val) = True := by simp [hrb]
        rw [if_pos (by rw [hre, hra, hrb])] at eR
        rw [eR]
        have hg : gr 9 (.tuple #[vb, .int .i64 0]) = false := by
          rcases so6.own with ⟨e, _⟩ | ⟨_, a, h, _⟩ | ⟨b', o', c', xs', h, _⟩
          · rw [e] at hLl; simp at hLl
          · rw [h]; rfl
          · rw [h]; rfl
        refine ⟨vb, H6, (Vh _ _ _ H ?_).trans (congrArg some (WK hg)), s06, so6.own, fun b h => Nat.le_trans s03.n (so6.new b h)⟩
        simp (disch := first | with_reducible rfl | assumption | omega | rfl | (simp only [go_sem]; first | done | omega)) only [go_sem, ↓reduceIte, reduceCtorEq, Nat.reduceEqDiff, Nat.reduceAdd, Nat.reduceSub, Nat.reduceMul, Nat.reduceDiv, Nat.reduceMod, Nat.reduceLeDiff, Nat.reduceLT, Nat.reduceBEq, Int.reduceEq, Int.reduceBEq, Int.reduceBNe, Int.reduceLT, Int.reduceLE, Int.reduceAdd, Int.reduceSub, Int.reduceNeg, Int.reduceToNat, Int.reducePow, Nat.reducePow, Int.reduceMul, Int.reduceDiv, ↓XV, hH1, f1, ↓Ya m1, Ya m1, YT, hne, a1, hH2, hw, wl, z, g6, ↓Ya m6, Ya m6, hre', hra', hrb']
      · rw [if_neg (fun e => hrb (by cases e; rfl))] at eR
        have hre' : (re = 0) = True := by simp [hre]
        have hra' : (ra = key) = True := by simp [hra]
        refine Q6 (kl := kl) (rl := rl) (e := 12) ?_ eR
        apply Yj _ (Vh _ _ _ H) rfl
        rotate_left 2
        · simp (disch := first | with_reducible rfl | assumption | omega | rfl | (simp only [go_sem]; first | done | omega)) only [go_sem, ↓reduceIte, reduceCtorEq, Nat.reduceEqDiff, Nat.reduceAdd, Nat.reduceSub, Nat.reduceMul, Nat.reduceDiv, Nat.reduceMod, Nat.reduceLeDiff, Nat.reduceLT, Nat.reduceBEq, Int.reduceEq, Int.reduceBEq, Int.reduceBNe, Int.reduceLT, Int.reduceLE, Int.reduceAdd, Int.reduceSub, Int.reduceNeg, Int.reduceToNat, Int.reducePow, Nat.reducePow, Int.reduceMul, Int.reduceDiv, ↓XV, hH1, f1, ↓Ya m1, Ya m1, YT, hne, a1, hH2, hw, wl, z, g6, ↓Ya m6, Ya m6, hre', hra', hrb]
          rfl
        · exact s06
    · rw [if_neg (fun e => hra (by cases e; rfl))] at eR
      have hre' : (re = 0) = True := by simp [hre]
      refine Q6 (kl := kl) (rl := rl) (e := 12) ?_ eR
      apply Yj _ (Vh _ _ _ H) rfl
      rotate_left 2
      · simp (disch := first | with_reducible rfl | assumption | omega | rfl | (simp only [go_sem]; first | done | omega)) only [go_sem, ↓reduceIte, reduceCtorEq, Nat.reduceEqDiff, Nat.reduceAdd, Nat.reduceSub, Nat.reduceMul, Nat.reduceDiv, Nat.reduceMod, Nat.reduceLeDiff, Nat.reduceLT, Nat.reduceBEq, Int.reduceEq, Int.reduceBEq, Int.reduceBNe, Int.reduceLT, Int.reduceLE, Int.reduceAdd, Int.reduceSub, Int.reduceNeg, Int.reduceToNat, Int.reducePow, Nat.reducePow, Int.reduceMul, Int.reduceDiv, ↓XV, hH1, f1, ↓Ya m1, Ya m1, YT, hne, a1, hH2, hw, wl, z, g6, ↓Ya m6, Ya m6, hre', hra]
        rfl
      · exact s06
  · rw [if_neg (fun e => hre (by cases e; rfl))] at eR
    refine Q6 (kl := kl) (rl := rl) (e := 12) ?_ eR
    apply Yj _ (Vh _ _ _ H) rfl
    rotate_left 2
    · simp (disch := first | with_reducible rfl | assumption | omega | rfl | (simp only [go_sem]; first | done | omega)) only [go_sem, ↓reduceIte, reduceCtorEq, Nat.reduceEqDiff, Nat.reduceAdd, Nat.reduceSub, Nat.reduceMul, Nat.reduceDiv, Nat.reduceMod, Nat.reduceLeDiff, Nat.reduceLT, Nat.reduceBEq, Int.reduceEq, Int.reduceBEq, Int.reduceBNe, Int.reduceLT, Int.reduceLE, Int.reduceAdd, Int.reduceSub, Int.reduceNeg, Int.reduceToNat, Int.reducePow, Nat.reducePow, Int.reduceMul, Int.reduceDiv, ↓XV, hH1, f1, ↓Ya m1, Ya m1, YT, hne, a1, hH2, hw, wl, z, g6, ↓Ya m6, Ya m6, hre]
      rfl
    · exact s06
end Go.Proofs.YtmiinbhnfojnbaaDoor

set_option maxRecDepth 10000
namespace Go.Proofs.YtmiinbhnfojnbaaDoor
open Go Eng
theorem VD {n : Nat} (h : n < 256) : (by8 n).toNat = n := by
  unfold by8; rw [UInt8.toNat_ofNat']; omega
theorem numF_app : ∀ (l : List UInt8) (c : UInt8) (a : Nat), U4 a (l ++ [c]) = U4 a l * 256 + c.toNat
  | [], _, _ => rfl
  | d :: l, c, a => numF_app l c (a * 256 + d.toNat)
theorem by8_toNat (n : Nat) : (by8 n).toNat = n % 256 := by unfold by8; rw [UInt8.toNat_ofNat']
theorem Ze : ∀ (k n : Nat), n < 256 ^ k → U4 0 (dg n) = n
  | 0, n, h => by
    have h : n < 1 := h
    have : n = 0 := by omega
    subst this; rw [Zg]; rfl
  | k + 1, n, h => by
    by_cases h0 : n = 0
    · subst h0; rw [Zg]; rfl
    · rw [dg_pos h0, numF_app, Ze k (n / 256) (by rw [Nat.pow_succ] at h; omega), by8_toNat]
      omega
theorem inv8_inv8 (c : UInt8) : W1 (W1 c) = c := by
  have h := c.toNat_lt
  apply UInt8.toNat_inj.1
  have : (W1 c).toNat = 255 - c.toNat := by_nat (by omega)
  rw [show W1 (W1 c) = by8 (255 - (W1 c).toNat) from rfl, VD (by omega), this]
  omega
where by_nat {n : Nat} (h : n < 256) : (by8 n).toNat = n := VD h
theorem numR_dg {n k : Nat} (h : n < 256 ^ 8) (r : List UInt8) (hk : k = (dg n).length) : Qi (dg n ++ r) k false = some (n, r) := by
  subst hk
  have hl := VA 8 n h
  unfold Qi
  rw [if_neg (by simp; omega), List.take_left' rfl, List.drop_left' rfl]
  show some (U4 0 (dg n), r) = _
  rw [Ze 8 n h]
theorem numR_inv {n k : Nat} (h : n < 256 ^ 8) (r : List UInt8) (hk : k = (dg n).length) : Qi ((dg n).map W1 ++ r) k true = some (n, r) := by
  subst hk
  have hl := VA 8 n h
  have hm : ((dg n).map W1).length = (dg n).length := by simp
  unfold Qi
  rw [if_neg (by simp; omega), List.take_left' hm, List.drop_left' hm]
  show some (U4 0 (((dg n).map W1).map W1), r) = _
  have : ((dg n).map W1).map W1 = dg n := by
    rw [List.map_map]
    have : W1 ∘ W1 = id := funext inv8_inv8
    rw [this, List.map_id]
  rw [this, Ze 8 n h]
theorem une_esc : ∀ l : List UInt8, une (esc l) = l
  | [] => rfl
  | c :: l => by
    by_cases h : c = 0
    · subst h
      simp only [esc, if_true]
      rw [une, if_pos ⟨rfl, rfl⟩, une_esc l]
    · simp only [esc, h, if_false]
      rw [une_other (by simp [List.isPrefixOf]; intro e; exact absurd e.symm h), une_esc l]
theorem index_esc : ∀ (l r : List UInt8), Lib.index (esc l ++ 0 :: 1 :: r) [0, 1] = ((esc l).length : Int)
  | [], r => by
    show Lib.index (0 :: 1 :: r) [0, 1] = 0
    exact index_pre (by simp [List.isPrefixOf])
  | c :: l, r => by
    have ih := index_esc l r
    by_cases h : c = 0
    · subst h
      simp only [esc, if_true, List.cons_append, List.length_cons]
      rw [Uq (by simp [List.isPrefixOf]), Uq (by simp [List.isPrefixOf]), ih]
      simp only [show ¬ (((esc l).length : Int) = -1) by omega, if_false, show ¬ (((esc l).length : Int) + 1 = -1) by omega]
      omega
    · simp only [esc, h, if_false, List.cons_append, List.length_cons]
      rw [Uq (by simp [List.isPrefixOf]; intro e; exact absurd e.symm h), ih]
      simp only [show ¬ (((esc l).length : Int) = -1) by omega, if_false]
      omega
theorem tkT_esc (l r : List UInt8) : tkT (esc l ++ 0 :: 1 :: r) = (⟨3, 0, 0, mk l, false⟩, r, true) := by
  unfold tkT
  rw [index_esc, if_neg (by omega), Int.toNat_natCast, List.take_left' rfl, replaceAll_une, une_esc]
  congr 2
  rw [List.drop_append, List.drop_eq_nil_of_le (by omega), show (esc l).length + 2 - (esc l).length = 2 by omega]
  rfl
theorem Gh {s : ByteArray} (h : bl s = []) : s = mk [] := bl_inj (by rw [h, YT])
theorem tk_cons (k : Int) (c : UInt8) (s : List UInt8) : tk k (c :: s) = tkC k c s := rfl
theorem tk_enc {c : Cl} {k : Int} (hk : Vi k = true) (hc : XK c) (hp : XL c k = true) (r : List UInt8) : tk k (enc c ++ r) = (c, r, true) := by
  obtain ⟨k1, u1, i1, s1, b1⟩ := c
  unfold XL at hp
  simp only [decide_eq_true_eq] at hp
  obtain ⟨rfl, hu, hi, hs, hb⟩ := hp
  obtain ⟨⟨hu0, hu1⟩, ⟨hi0, hi1⟩, hsl⟩ := hc
  dsimp only at hu0 hu1 hi0 hi1 hsl
  have p8 : (256 : Nat) ^ 8 = 18446744073709551616 := by decide
  unfold enc
  dsimp only
  by_cases h1 : k1 = 1
  · subst h1
    have hi := hi.resolve_left (by decide); have hs := Gh (hs.resolve_left (by decide)); have hb := hb.resolve_left (by decide)
    subst hi hs hb
    have hl := VA 8 u1.toNat (by omega)
    rw [if_pos rfl, List.cons_append, tk_cons]
    unfold tkC
    rw [if_pos rfl, VD (by omega), numR_dg (by omega) r rfl]
    show ((⟨1, ((u1.toNat : Nat) : Int), 0, mk [], false⟩ : Cl), r, true) = _
    rw [show ((u1.toNat : Nat) : Int) = u1 by omega]
  rw [if_neg h1]
  have hu := hu.resolve_left h1
  subst hu
  by_cases h2 : k1 = 2
  · subst h2
    have hs := Gh (hs.resolve_left (by decide)); have hb := hb.resolve_left (by decide)
    subst hs hb
    rw [if_pos rfl]
    by_cases h0 : 0 ≤ i1
    · have hl := VA 8 i1.toNat (by omega)
      rw [if_pos h0, List.cons_append, tk_cons]
      unfold tkC
      rw [if_neg (by decide), if_pos rfl, VD (by omega), if_pos (by omega), show 128 + (dg i1.toNat).length - 128 = (dg i1.toNat).length by omega, numR_dg (by omega) r rfl]
      show ((⟨2, 0, IntKind.wrap .i64 ((i1.toNat : Nat) : Int), mk [], false⟩ : Cl), r, true) = _
      rw [show ((i1.toNat : Nat) : Int) = i1 by omega, XE ⟨by omega, by omega⟩]
    · obtain ⟨j, hj⟩ : ∃ j : Nat, -(i1 + 1) = j := ⟨(-(i1 + 1)).toNat, by omega⟩
      rw [hj, Int.toNat_natCast]
      have hl := VA 8 j (by omega)
      rw [if_neg h0, List.cons_append, tk_cons]
      unfold tkC
      rw [if_neg (by decide), if_pos rfl, VD (by omega), if_neg (by omega), show 127 - (127 - (dg j).length) = (dg j).length by omega, numR_inv (by omega) r rfl]
      show ((⟨2, 0, IntKind.wrap .i64 (IntKind.wrap .i64 (-(IntKind.wrap .i64 (j : Int))) - 1), mk [], false⟩ : Cl), r, true) = _
      rw [XE (n := (j : Int)) ⟨by omega, by omega⟩, XE (n := -(j : Int)) ⟨by omega, by omega⟩, XE (n := -(j : Int) - 1) ⟨by omega, by omega⟩, show -(j : Int) - 1 = i1 by omega]
  rw [if_neg h2]
  have hi := hi.resolve_left h2
  subst hi
  by_cases h3 : k1 = 3
  · subst h3
    have hb := hb.resolve_left (by decide)
    subst hb
    rw [if_pos rfl]
    obtain ⟨x, t, hx⟩ : ∃ x t, esc (bl s1) ++ [0, 1] ++ r = x :: t := by
      cases he : esc (bl s1) with
      | nil => exact ⟨_, _, rfl⟩
      | cons a b => exact ⟨_, _, rfl⟩
    have e := tkT_esc (bl s1) r
    have : esc (bl s1) ++ 0 :: 1 :: r = esc (bl s1) ++ [0, 1] ++ r := by simp
    rw [this, hx] at e
    rw [hx, tk_cons]
    unfold tkC
    rw [if_neg (by decide), if_neg (by decide), if_pos rfl, e, mk_bl]
  rw [if_neg h3]
  have hs := Gh (hs.resolve_left h3)
  subst hs
  have h4 : k1 = 4 := by
    unfold Vi at hk
    simp only [Bool.and_eq_true, decide_eq_true_eq] at hk
    omega
  subst h4
  cases b1 with
  | true =>
    rw [if_pos rfl, List.cons_append, tk_cons]
    unfold tkC
    rw [if_neg (by decide), if_neg (by decide), if_neg (by decide)]
    rfl
  | false =>
    rw [if_neg (by decide), List.cons_append, tk_cons]
    unfold tkC
    rw [if_neg (by decide), if_neg (by decide), if_neg (by decide)]
    rfl
theorem Q5 : ∀ (ks : List Int) (l : List Cl) (r : List UInt8), (∀ k ∈ ks, Vi k = true) → (∀ c ∈ l, XK c) → Vf l ks = true → UP ks (Xj l ++ r) = some l
  | [], [], _, _, _, _ => rfl
  | [], _ :: _, _, _, _, h => by simp [Vf] at h
  | _ :: _, [], _, _, _, h => by simp [Vf] at h
  | k :: ks, c :: l, r, hk, hc, h => by
    have h : l.length = ks.length ∧ XL c k = true ∧ VQ l ks = true := by
      unfold Vf at h
      simp only [List.length_cons, VQ, Bool.and_eq_true, decide_eq_true_eq] at h
      exact ⟨by omega, h.2.1, h.2.2⟩
    have ih := Q5 ks l r (fun x hx => hk x (by simp [hx])) (fun x hx => hc x (by simp [hx])) (by unfold Vf; simp [h.1, h.2.2])
    have e := tk_enc (hk k (by simp)) (hc c (by simp)) h.2.1 (Xj l ++ r)
    rw [Xj, List.append_assoc, UP, e]
    simp only [if_true, ih, Option.map_some]
theorem are2_split : ∀ (l : List Cl) (a b : List Int), l.length = a.length + b.length → VQ l (a ++ b) = (VQ (l.take a.length) a && VQ (l.drop a.length) b)
  | l, [], b, h => by simp [VQ]
  | [], k :: a, b, h => by exfalso; simp only [List.length_nil, List.length_cons] at h; omega
  | c :: l, k :: a, b, h => by
    show (XL c k && VQ l (a ++ b)) = _
    rw [are2_split l a b (by simp at h; omega)]
    simp [VQ, Bool.and_assoc]
theorem areP_split {l : List Cl} {a b : List Int} (h : Vf l (a ++ b) = true) : Vf (l.take a.length) a = true ∧ Vf (l.drop a.length) b = true ∧ l.length = a.length + b.length := by
  unfold Vf at h
  simp only [Bool.and_eq_true, decide_eq_true_eq, List.length_append] at h
  have h2 := h.2
  rw [are2_split l a b h.1, Bool.and_eq_true] at h2
  unfold Vf
  refine ⟨?_, ?_, h.1⟩
  · simp only [Bool.and_eq_true, decide_eq_true_eq, List.length_take]; exact ⟨by omega, h2.1⟩
  · simp only [Bool.and_eq_true, decide_eq_true_eq, List.length_drop]; exact ⟨by omega, h2.2⟩
theorem rowR_ok {n : Int} {kl rl : List Int} {l : List Cl} {key val : List UInt8} (h : rowR n kl rl l = (key, val, 0)) : rowOk n kl rl l = true ∧ key = keyB n kl l ∧ val = valB kl l ∧ (keyB n kl l).length ≤ 24 ∧ (valB kl l).length ≤ 40 := by
  unfold rowR at h
  split at h
  · rename_i h1
    split at h
    · cases h
    · rename_i h2
      cases h
      exact ⟨h1, rfl, rfl, by omega, by omega⟩
  · cases h
theorem readR_row {n : Int} {kl rl : List Int} {l : List Cl} {key val : List UInt8} (hc : ∀ c ∈ l, XK c) (h : rowR n kl rl l = (key, val, 0)) : readR n kl rl key val = (l, 0) := by
  obtain ⟨h1, h2, h3, _, _⟩ := rowR_ok h
  unfold rowOk at h1
  simp only [Bool.and_eq_true] at h1
  obtain ⟨hv, ha⟩ := h1
  obtain ⟨hk, hr, _⟩ := okk hv
  obtain ⟨ha1, ha2, hl⟩ := areP_split ha
  unfold readR
  rw [if_pos hv]
  obtain ⟨x, hx⟩ : ∃ x, keyB n kl l = x := ⟨_, rfl⟩
  have e1 := Q5 kl (l.take kl.length) [] hk (fun c h => hc c (List.mem_of_mem_take h)) ha1
  have e2 := Q5 rl (l.drop kl.length) [] hr (fun c h => hc c (List.mem_of_mem_drop h)) ha2
  rw [List.append_nil] at e1 e2
  have eP : readP kl rl (Xj (l.take kl.length)) val = some l := by
    unfold readP
    rw [h3, show valB kl l = Xj (l.drop kl.length) from rfl, e1, e2]
    simp
  subst h2
  unfold keyB at h ⊢
  simp only [eP]
  rw [if_pos h]
end Go.Proofs.YtmiinbhnfojnbaaDoor

set_option maxRecDepth 10000
namespace Go.Proofs.YtmiinbhnfojnbaaDoor
open Go Eng
def Dif (a b : List UInt8) : Prop := ∃ (p : List UInt8) (u v : UInt8) (x y : List UInt8), a = p ++ u :: x ∧ b = p ++ v :: y ∧ u < v
theorem Dif.here {u v : UInt8} {x y : List UInt8} (h : u < v) : Dif (u :: x) (v :: y) := ⟨[], u, v, x, y, rfl, rfl, h⟩
theorem Dif.pre {a b : List UInt8} (h : Dif a b) (q : List UInt8) : Dif (q ++ a) (q ++ b) := by
  obtain ⟨p, u, v, x, y, rfl, rfl, h⟩ := h
  exact ⟨q ++ p, u, v, x, y, by simp, by simp, h⟩
theorem Dif.cons {a b : List UInt8} (h : Dif a b) (c : UInt8) : Dif (c :: a) (c :: b) := h.pre [c]
theorem Dif.app {a b : List UInt8} (h : Dif a b) (x y : List UInt8) : Dif (a ++ x) (b ++ y) := by
  obtain ⟨p, u, v, x', y', rfl, rfl, h⟩ := h
  exact ⟨p, u, v, x' ++ x, y' ++ y, by simp, by simp, h⟩
theorem u8lt {a b : UInt8} : a < b ↔ a.toNat < b.toNat := UInt8.lt_iff_toNat_lt
theorem u8irr (a : UInt8) : ¬ a < a := by rw [u8lt]; omega
theorem less_pre : ∀ (p a b : List UInt8), Op.bytesLess (p ++ a) (p ++ b) = Op.bytesLess a b
  | [], _, _ => rfl
  | c :: p, a, b => by
    show (decide (c < c) || (c == c && Op.bytesLess (p ++ a) (p ++ b))) = _
    rw [less_pre p a b, decide_eq_false (u8irr c)]
    simp
theorem Dif.less {a b : List UInt8} (h : Dif a b) : Op.bytesLess a b = true ∧ Op.bytesLess b a = false := by
  obtain ⟨p, u, v, x, y, rfl, rfl, h⟩ := h
  have h' := u8lt.1 h
  rw [less_pre, less_pre]
  constructor
  · show (decide (u < v) || _) = true
    rw [decide_eq_true h]; rfl
  · show (decide (v < u) || (v == u && _)) = false
    have h1 : ¬ v < u := by rw [u8lt]; omega
    have h2 : (v == u) = false := by
      rw [beq_eq_false_iff_ne]; rintro rfl; exact u8irr v h
    rw [decide_eq_false h1, h2]; rfl
theorem Dif.take {a b : List UInt8} (h : Dif a b) (n : Nat) : a.take n ≠ b := by
  obtain ⟨p, u, v, x, y, rfl, rfl, h⟩ := h
  intro e
  have h1 := congrArg (fun l => l[p.length]?) e
  simp only [List.getElem?_take, List.getElem?_append_right (Nat.le_refl _), Nat.sub_self, List.getElem?_cons_zero] at h1
  split at h1
  · cases h1; exact u8irr _ h
  · cases h1
theorem Dif.ne {a b : List UInt8} (h : Dif a b) : a ≠ b := fun e => h.take a.length (by rw [List.take_length]; exact e)
theorem numF_hi (l : List UInt8) : U4 0 l < 256 ^ l.length := by have := numF_lt l 0; simpa using this
theorem numF_ge : ∀ (l : List UInt8) (a : Nat), a * 256 ^ l.length ≤ U4 a l
  | [], a => by simp [U4]
  | c :: l, a => by
    have := numF_ge l (a * 256 + c.toNat)
    rw [U4, List.length_cons, Nat.pow_succ, Nat.mul_comm (256 ^ l.length) 256, ← Nat.mul_assoc]
    exact Nat.le_trans (Nat.mul_le_mul_right _ (by omega)) this
theorem dif_num {a b : List UInt8} (hl : a.length = b.length) (h : Dif a b) (z : Nat) : U4 z a < U4 z b := by
  obtain ⟨p, u, v, x, y, rfl, rfl, h⟩ := h
  have hxy : x.length = y.length := by simp at hl; omega
  have key : ∀ (p : List UInt8) (z : Nat), U4 z (p ++ u :: x) < U4 z (p ++ v :: y) := by
    intro p
    induction p with
    | nil =>
      intro z
      show U4 (z * 256 + u.toNat) x < U4 (z * 256 + v.toNat) y
      have h1 := numF_lt x (z * 256 + u.toNat)
      have h2 := numF_ge y (z * 256 + v.toNat)
      rw [← hxy] at h2
      have h3 : (z * 256 + u.toNat + 1) * 256 ^ x.length ≤ (z * 256 + v.toNat) * 256 ^ x.length := Nat.mul_le_mul_right _ (by have := u8lt.1 h; omega)
      omega
    | cons c p ih => intro z; exact ih _
  exact key p z
theorem dif_three : ∀ (a b : List UInt8), a.length = b.length → a = b ∨ Dif a b ∨ Dif b a
  | [], [], _ => .inl rfl
  | [], _ :: _, h => by simp at h
  | _ :: _, [], h => by simp at h
  | c :: a, d :: b, h => by
    by_cases h1 : c < d
    · exact .inr (.inl (.here h1))
    · by_cases h2 : d < c
      · exact .inr (.inr (.here h2))
      · have : c = d := by
          apply UInt8.toNat_inj.1
          rw [u8lt] at h1 h2; omega
        subst this
        rcases dif_three a b (by simpa using h) with rfl | h | h
        · exact .inl rfl
        · exact .inr (.inl (h.cons c))
        · exact .inr (.inr (h.cons c))
theorem dif_of_num {a b : List UInt8} (hl : a.length = b.length) (h : U4 0 a < U4 0 b) : Dif a b := by
  rcases dif_three a b hl with rfl | h1 | h1
  · omega
  · exact h1
  · have := dif_num hl.symm h1 0; omega
theorem dg_low : ∀ (k n : Nat), n < 256 ^ k → n ≠ 0 → 256 ^ ((dg n).length - 1) ≤ n ∧ 1 ≤ (dg n).length
  | 0, n, h, h0 => by
    have h : n < 1 := h
    omega
  | k + 1, n, h, h0 => by
    rw [dg_pos h0]
    have hn : n / 256 < 256 ^ k := by rw [Nat.pow_succ] at h; omega
    by_cases h1 : n / 256 = 0
    · rw [h1, Zg]; simp; omega
    · obtain ⟨a1, a2⟩ := dg_low k (n / 256) hn h1
      have e : ((dg (n / 256) ++ [by8 n]).length - 1) = ((dg (n / 256)).length - 1) + 1 := by simp; omega
      rw [e, Nat.pow_succ]
      refine ⟨by omega, by simp⟩
theorem dg_mono {u v : Nat} (hv : v < 256 ^ 8) (h : u < v) : (dg u).length ≤ (dg v).length := by
  have hu : u < 256 ^ 8 := by omega
  apply Nat.le_of_not_lt
  intro hl
  by_cases h0 : u = 0
  · subst h0; rw [Zg] at hl; simp at hl
  · obtain ⟨a1, a2⟩ := dg_low 8 u hu h0
    have h1 := numF_hi (dg v)
    rw [Ze 8 v hv] at h1
    have h2 : 256 ^ (dg v).length ≤ 256 ^ ((dg u).length - 1) := Nat.pow_le_pow_right (by decide) (by omega)
    omega
theorem dif_dg {u v : Nat} (hv : v < 256 ^ 8) (h : u < v) (b : Nat) (hb : b ≤ 128) : Dif (by8 (b + (dg u).length) :: dg u) (by8 (b + (dg v).length) :: dg v) := by
  have hm := dg_mono hv h
  have l2 := VA 8 v hv
  by_cases he : (dg u).length = (dg v).length
  · rw [he]
    exact (dif_of_num he (by rw [Ze 8 u (by omega), Ze 8 v hv]; exact h)).cons _
  · refine .here ?_
    rw [u8lt, VD (by omega), VD (by omega)]
    omega
theorem dif_inv {a b : List UInt8} (h : Dif a b) : Dif (b.map W1) (a.map W1) := by
  obtain ⟨p, u, v, x, y, rfl, rfl, h⟩ := h
  refine ⟨p.map W1, W1 v, W1 u, y.map W1, x.map W1, by simp, by simp, ?_⟩
  have h1 := u8lt.1 h
  have h2 := u.toNat_lt
  have h3 := v.toNat_lt
  rw [u8lt, show W1 v = by8 (255 - v.toNat) from rfl, show W1 u = by8 (255 - u.toNat) from rfl, VD (by omega), VD (by omega)]
  omega
theorem dif_neg {u v : Nat} (hv : v < 256 ^ 8) (h : u < v) : Dif (by8 (127 - (dg v).length) :: (dg v).map W1) (by8 (127 - (dg u).length) :: (dg u).map W1) := by
  have hm := dg_mono hv h
  have l2 := VA 8 v hv
  by_cases he : (dg u).length = (dg v).length
  · rw [he]
    exact (dif_inv (dif_of_num he (by rw [Ze 8 u (by omega), Ze 8 v hv]; exact h))).cons _
  · refine .here ?_
    rw [u8lt, VD (by omega), VD (by omega)]
    omega
theorem dif_esc : ∀ (a b : List UInt8), Op.bytesLess a b = true → Dif (esc a ++ [0, 1]) (esc b ++ [0, 1])
  | _, [], h => by cases ‹List UInt8› <;> simp [Op.bytesLess] at h
  | [], b :: y, _ => by
    by_cases hb : b = 0
    · subst hb
      simp only [esc, if_true]
      exact (Dif.here (x := []) (y := esc y ++ [0, 1]) (show (1 : UInt8) < 255 by decide)).cons 0
    · simp only [esc, hb, if_false]
      refine .here ?_
      rw [u8lt]
      have : b.toNat ≠ 0 := fun e => hb (UInt8.toNat_inj.1 e)
      show 0 < b.toNat
      omega
  | a :: x, b :: y, h9 => by
    have h : (decide (a < b) || (a == b && Op.bytesLess x y)) = true := h9
    by_cases hlt : a < b
    · have hb : b ≠ 0 := by
        rintro rfl
        rw [u8lt] at hlt
        exact absurd hlt (Nat.not_lt_zero _)
      by_cases ha : a = 0
      · subst ha
        simp only [esc, if_true, hb, if_false]
        exact .here hlt
      · simp only [esc, ha, hb, if_false]
        exact .here hlt
    · rw [decide_eq_false hlt] at h
      simp only [Bool.false_or, Bool.and_eq_true, beq_iff_eq] at h
      have hxy := h.2
      have hab := h.1
      clear h h9
      subst hab
      have ih := dif_esc x y hxy
      by_cases ha : a = 0
      · subst ha
        simp only [esc, if_true]
        exact (ih.cons 255).cons 0
      · simp only [esc, ha, if_false]
        exact ih.cons a
theorem less_three : ∀ a b : List UInt8, Op.bytesLess a b = true ∨ a = b ∨ Op.bytesLess b a = true
  | [], [] => .inr (.inl rfl)
  | [], _ :: _ => .inl rfl
  | _ :: _, [] => .inr (.inr rfl)
  | a :: x, b :: y => by
    by_cases h1 : a < b
    · exact .inl (by show (decide (a < b) || _) = true; rw [decide_eq_true h1]; rfl)
    · by_cases h2 : b < a
      · exact .inr (.inr (by show (decide (b < a) || _) = true; rw [decide_eq_true h2]; rfl))
      · have : a = b := by
          apply UInt8.toNat_inj.1
          rw [u8lt] at h1 h2; omega
        subst this
        have e : ∀ x y, Op.bytesLess (a :: x) (a :: y) = Op.bytesLess x y := fun x y => less_pre [a] x y
        rw [e, e]
        rcases less_three x y with h | rfl | h
        · exact .inl h
        · exact .inr (.inl rfl)
        · exact .inr (.inr h)
theorem less_irr : ∀ a : List UInt8, Op.bytesLess a a = false
  | [] => rfl
  | a :: x => by
    have : Op.bytesLess (a :: x) (a :: x) = Op.bytesLess x x := less_pre [a] x x
    rw [this]; exact less_irr x
theorem cell_three {c d : Cl} {k : Int} (hk : Vi k = true) (hc : XK c) (hd : XK d) (pc : XL c k = true) (pd : XL d k = true) :
    (cmpC c d < 0 ∧ Dif (enc c) (enc d)) ∨ (cmpC c d = 0 ∧ c = d) ∨ (0 < cmpC c d ∧ Dif (enc d) (enc c)) := by
  obtain ⟨k1, u1, i1, s1, b1⟩ := c
  obtain ⟨k2, u2, i2, s2, b2⟩ := d
  unfold XL at pc pd
  simp only [decide_eq_true_eq] at pc pd
  obtain ⟨rfl, hu1, hi1, hs1, hb1⟩ := pc
  obtain ⟨rfl, hu2, hi2, hs2, hb2⟩ := pd
  obtain ⟨⟨a1, a2⟩, ⟨a3, a4⟩, _⟩ := hc
  obtain ⟨⟨d1, d2⟩, ⟨d3, d4⟩, _⟩ := hd
  dsimp only at a1 a2 a3 a4 d1 d2 d3 d4
  have p8 : (256 : Nat) ^ 8 = 18446744073709551616 := by decide
  unfold cmpC enc
  dsimp only
  rw [if_pos rfl]
  by_cases h1 : k2 = 1
  · subst h1
    have e1 := hi1.resolve_left (by decide); have e2 := Gh (hs1.resolve_left (by decide)); have e3 := hb1.resolve_left (by decide)
    have e4 := hi2.resolve_left (by decide); have e5 := Gh (hs2.resolve_left (by decide)); have e6 := hb2.resolve_left (by decide)
    subst e1 e2 e3 e4 e5 e6
    simp only [if_true]
    by_cases h : u1 < u2
    · have := dif_dg (u := u1.toNat) (v := u2.toNat) (by omega) (by omega) 0 (by decide)
      rw [Nat.zero_add, Nat.zero_add] at this
      exact .inl ⟨by simp [c3, h], this⟩
    · by_cases h' : u2 < u1
      · have := dif_dg (u := u2.toNat) (v := u1.toNat) (by omega) (by omega) 0 (by decide)
        rw [Nat.zero_add, Nat.zero_add] at this
        exact .inr (.inr ⟨by simp [c3, h, h'], this⟩)
      · exact .inr (.inl ⟨by simp [c3, h, h'], by rw [show u1 = u2 by omega]⟩)
  rw [if_neg h1, if_neg h1, if_neg h1]
  have e1 := hu1.resolve_left h1
  have e2 := hu2.resolve_left h1
  subst e1 e2
  by_cases h2 : k2 = 2
  · subst h2
    have e2 := Gh (hs1.resolve_left (by decide)); have e3 := hb1.resolve_left (by decide)
    have e5 := Gh (hs2.resolve_left (by decide)); have e6 := hb2.resolve_left (by decide)
    subst e2 e3 e5 e6
    simp only [if_true]
    have key : ∀ x y : Int, x < y → -9223372036854775808 ≤ x → y < 9223372036854775808 → Dif (if 0 ≤ x then by8 (128 + (dg x.toNat).length) :: dg x.toNat else by8 (127 - (dg (-(x + 1)).toNat).length) :: (dg (-(x + 1)).toNat).map W1) (if 0 ≤ y then by8 (128 + (dg y.toNat).length) :: dg y.toNat else by8 (127 - (dg (-(y + 1)).toNat).length) :: (dg (-(y + 1)).toNat).map W1) := by
      intro x y hxy hx hy
      by_cases h0 : 0 ≤ x
      · rw [if_pos h0, if_pos (by omega)]
        exact dif_dg (by omega) (by omega) 128 (by decide)
      · rw [if_neg h0]
        have l1 := VA 8 (-(x + 1)).toNat (by omega)
        by_cases h0' : 0 ≤ y
        · rw [if_pos h0']
          have l2 := VA 8 y.toNat (by omega)
          refine .here ?_
          rw [u8lt, VD (by omega), VD (by omega)]
          omega
        · rw [if_neg h0']
          exact dif_neg (by omega) (by omega)
    by_cases h : i1 < i2
    · exact .inl ⟨by simp [c3, h], key i1 i2 h (by omega) (by omega)⟩
    · by_cases h' : i2 < i1
      · exact .inr (.inr ⟨by simp [c3, h, h'], key i2 i1 h' (by omega) (by omega)⟩)
      · exact .inr (.inl ⟨by simp [c3, h, h'], by rw [show i1 = i2 by omega]⟩)
  rw [if_neg h2, if_neg h2, if_neg h2]
  have e1 := hi1.resolve_left h2
  have e2 := hi2.resolve_left h2
  subst e1 e2
  by_cases h3 : k2 = 3
  · subst h3
    have e3 := hb1.resolve_left (by decide)
    have e6 := hb2.resolve_left (by decide)
    subst e3 e6
    simp only [if_true]
    rcases less_three (bl s1) (bl s2) with h | h | h
    · exact .inl ⟨by simp [c3, lsS, h], dif_esc _ _ h⟩
    · have : s1 = s2 := bl_inj h
      subst this
      refine .inr (.inl ⟨?_, rfl⟩)
      simp [c3, lsS, gtS, less_irr]
    · have hd := dif_esc _ _ h
      have hn : Op.bytesLess (bl s1) (bl s2) = false := by
        cases hq : Op.bytesLess (bl s1) (bl s2) with
        | false => rfl
        | true => have := (dif_esc _ _ hq).less.2; rw [hd.less.1] at this; cases this
      have hne : (bl s1 == bl s2) = false := by
        rw [beq_eq_false_iff_ne]
        intro e
        rw [e, less_irr] at h; cases h
      exact .inr (.inr ⟨by simp [c3, lsS, gtS, hn, hne], hd⟩)
  rw [if_neg h3, if_neg h3, if_neg h3]
  have e1 := Gh (hs1.resolve_left h3)
  have e2 := Gh (hs2.resolve_left h3)
  subst e1 e2
  have h4 : k2 = 4 := by
    unfold Vi at hk
    simp only [Bool.and_eq_true, decide_eq_true_eq] at hk
    omega
  subst h4
  simp only [if_true]
  cases b1 <;> cases b2
  · exact .inr (.inl ⟨by simp [c3], rfl⟩)
  · exact .inl ⟨by simp [c3], .here (by decide)⟩
  · exact .inr (.inr ⟨by simp [c3], .here (by decide)⟩)
  · exact .inr (.inl ⟨by simp [c3], rfl⟩)
def cmpL : List Cl → List Cl → Int
  | [], _ => 0
  | _ :: _, [] => 0
  | a :: x, b :: y => if cmpC a b = 0 then cmpL x y else cmpC a b
theorem cells_three : ∀ (ks : List Int) (l m : List Cl), (∀ k ∈ ks, Vi k = true) → (∀ c ∈ l, XK c) → (∀ c ∈ m, XK c) → Vf l ks = true → Vf m ks = true →
    (cmpL l m < 0 ∧ Dif (Xj l) (Xj m)) ∨ (cmpL l m = 0 ∧ l = m) ∨ (0 < cmpL l m ∧ Dif (Xj m) (Xj l))
  | [], [], [], _, _, _, _, _ => .inr (.inl ⟨rfl, rfl⟩)
  | [], _ :: _, _, _, _, _, h, _ => by simp [Vf] at h
  | [], [], _ :: _, _, _, _, _, h => by simp [Vf] at h
  | _ :: _, [], _, _, _, _, h, _ => by simp [Vf] at h
  | _ :: _, _ :: _, [], _, _, _, _, h => by simp [Vf] at h
  | k :: ks, a :: x, b :: y, hk, hl, hm, h1, h2 => by
    have h1 : x.length = ks.length ∧ XL a k = true ∧ VQ x ks = true := by
      unfold Vf at h1
      simp only [List.length_cons, VQ, Bool.and_eq_true, decide_eq_true_eq] at h1
      exact ⟨by omega, h1.2.1, h1.2.2⟩
    have h2 : y.length = ks.length ∧ XL b k = true ∧ VQ y ks = true := by
      unfold Vf at h2
      simp only [List.length_cons, VQ, Bool.and_eq_true, decide_eq_true_eq] at h2
      exact ⟨by omega, h2.2.1, h2.2.2⟩
    have ih := cells_three ks x y (fun k hk' => hk k (by simp [hk'])) (fun c hc => hl c (by simp [hc])) (fun c hc => hm c (by simp [hc])) (by unfold Vf; simp [h1.1, h1.2.2]) (by unfold Vf; simp [h2.1, h2.2.2])
    unfold cmpL Xj
    rcases cell_three (hk k (by simp)) (hl a (by simp)) (hm b (by simp)) h1.2.1 h2.2.1 with ⟨e, d⟩ | ⟨e, rfl⟩ | ⟨e, d⟩
    · rw [if_neg (by omega)]
      exact .inl ⟨e, d.app _ _⟩
    · rw [if_pos e]
      rcases ih with ⟨e', d'⟩ | ⟨e', rfl⟩ | ⟨e', d'⟩
      · exact .inl ⟨e', d'.pre _⟩
      · exact .inr (.inl ⟨e', rfl⟩)
      · exact .inr (.inr ⟨e', d'.pre _⟩)
    · rw [if_neg (by omega)]
      exact .inr (.inr ⟨e, d.app _ _⟩)
theorem ff_span : ∀ (ff p : List UInt8), (∀ c ∈ ff, c = 255) → (Op.bytesLess p ff = false ↔ ff.isPrefixOf p = true)
  | [], p, _ => by cases p <;> simp [Op.bytesLess]
  | c :: ff, [], _ => by simp [Op.bytesLess, List.isPrefixOf]
  | c :: ff, x :: p, h => by
    have hc := h c (by simp)
    subst hc
    have ih := ff_span ff p fun c hc => h c (by simp [hc])
    show ((decide (x < 255) || (x == 255 && Op.bytesLess p ff)) = false) ↔ ((255 == x) && ff.isPrefixOf p) = true
    by_cases hx : x = 255
    · subst hx
      rw [decide_eq_false (u8irr _)]
      simpa using ih
    · have : x < 255 := by
        rw [u8lt]
        have h1 := x.toNat_lt
        have h2 : x.toNat ≠ 255 := fun e => hx (UInt8.toNat_inj.1 (by rw [e]; rfl))
        show x.toNat < 255
        omega
      rw [decide_eq_true this]
      have h2 : ((255 : UInt8) == x) = false := by rw [beq_eq_false_iff_ne]; exact fun e => hx e.symm
      rw [h2]
      simp
theorem mid_span (c : UInt8) (hc : c ≠ 255) (ff : List UInt8) (hf : ∀ c ∈ ff, c = 255) : ∀ (q p : List UInt8), (Op.bytesLess p (q ++ c :: ff) = false ∧ Op.bytesLess p (q ++ [by8 (c.toNat + 1)]) = true) ↔ (q ++ c :: ff).isPrefixOf p = true
  | [], [] => by simp [Op.bytesLess, List.isPrefixOf]
  | [], x :: p => by
    have ih := ff_span ff p hf
    have hc2 : c.toNat < 255 := by
      have h1 := c.toNat_lt
      have h2 : c.toNat ≠ 255 := fun e => hc (UInt8.toNat_inj.1 (by rw [e]; rfl))
      omega
    show ((decide (x < c) || (x == c && Op.bytesLess p ff)) = false ∧ (decide (x < by8 (c.toNat + 1)) || (x == by8 (c.toNat + 1) && Op.bytesLess p [])) = true) ↔ ((c == x) && ff.isPrefixOf p) = true
    have hn : Op.bytesLess p [] = false := by cases p <;> rfl
    have e8 : (by8 (c.toNat + 1)).toNat = c.toNat + 1 := VD (by omega)
    rw [hn, Bool.and_false, Bool.or_false]
    by_cases h1 : x < c
    · have h1' := u8lt.1 h1
      rw [decide_eq_true h1]
      have : (c == x) = false := by rw [beq_eq_false_iff_ne]; rintro rfl; exact u8irr _ h1
      rw [this]; simp
    · rw [decide_eq_false h1]
      by_cases h2 : x = c
      · subst h2
        have : x < by8 (x.toNat + 1) := by rw [u8lt, e8]; omega
        rw [decide_eq_true this]
        simpa using ih
      · have : ¬ x < by8 (c.toNat + 1) := by
          rw [u8lt, e8]
          rw [u8lt] at h1
          have : x.toNat ≠ c.toNat := fun e => h2 (UInt8.toNat_inj.1 e)
          omega
        rw [decide_eq_false this]
        have h3 : (c == x) = false := by rw [beq_eq_false_iff_ne]; exact fun e => h2 e.symm
        rw [h3]; simp
  | d :: q, [] => by simp [Op.bytesLess, List.isPrefixOf]
  | d :: q, x :: p => by
    have ih := mid_span c hc ff hf q p
    show ((decide (x < d) || (x == d && Op.bytesLess p (q ++ c :: ff))) = false ∧ (decide (x < d) || (x == d && Op.bytesLess p (q ++ [by8 (c.toNat + 1)]))) = true) ↔ ((d == x) && (q ++ c :: ff).isPrefixOf p) = true
    by_cases h1 : x < d
    · rw [decide_eq_true h1]
      have : (d == x) = false := by rw [beq_eq_false_iff_ne]; rintro rfl; exact u8irr _ h1
      rw [this]; simp
    · rw [decide_eq_false h1]
      by_cases h2 : x = d
      · subst h2; simpa using ih
      · have h3 : (d == x) = false := by rw [beq_eq_false_iff_ne]; exact fun e => h2 e.symm
        have h4 : (x == d) = false := by rw [beq_eq_false_iff_ne]; exact h2
        rw [h3, h4]; simp
theorem trim_ff (l : List UInt8) : ∀ n, n ≤ l.length → ∀ c ∈ (l.take n).drop (trimN l n), c = 255
  | 0, _, c, h => by simp at h
  | n + 1, hn, c, h => by
    unfold trimN at h
    split at h
    · rename_i h2
      have ht : l.take (n + 1) = l.take n ++ [255] := by rw [List.take_add_one, h2]; rfl
      have hle := trimN_le l n
      rw [ht, List.drop_append, List.mem_append] at h
      rcases h with h | h
      · exact trim_ff l n (by omega) c h
      · have := List.mem_of_mem_drop h
        simpa using this
    · rw [List.drop_eq_nil_of_le (by simp; omega)] at h
      cases h
theorem span_in (a p : List UInt8) : (Op.bytesLess p a = false ∧ (bump a = [] ∨ Op.bytesLess p (bump a) = true)) ↔ a.isPrefixOf p = true := by
  have hff := trim_ff a a.length (Nat.le_refl _)
  rw [List.take_length] at hff
  unfold bump
  cases ht : trimN a a.length with
  | zero =>
    rw [ht, List.drop_zero] at hff
    have := ff_span a p hff
    show (_ ∧ (([] : List UInt8) = [] ∨ _)) ↔ _
    simpa using this
  | succ t =>
    have hle := trimN_le a a.length
    rw [ht] at hff hle
    have hlast := trimN_last a a.length t ht
    have htl : t < a.length := by omega
    have hget : a[t]? = some a[t] := List.getElem?_eq_getElem htl
    have ha : a = a.take t ++ a[t] :: a.drop (t + 1) := by
      have := List.take_append_drop t a
      rw [List.drop_eq_getElem_cons htl] at this
      exact this.symm
    have hne : a[t] ≠ 255 := fun e => hlast (by rw [hget, e])
    have hm := mid_span a[t] hne (a.drop (t + 1)) hff (a.take t) p
    rw [← ha] at hm
    have hb : bumpB a (t + 1) = a.take t ++ [by8 (a[t].toNat + 1)] := by
      show a.take t ++ [by8 ((a.getD t 0).toNat + 1)] = _
      rw [List.getD_eq_getElem?_getD, hget]; rfl
    rw [hb]
    have hnn : ¬ (a.take t ++ [by8 (a[t].toNat + 1)] = []) := by simp
    constructor
    · rintro ⟨h1, h2⟩
      exact hm.1 ⟨h1, h2.resolve_left hnn⟩
    · intro h
      exact ⟨(hm.2 h).1, .inr (hm.2 h).2⟩
theorem encs_app : ∀ l m : List Cl, Xj (l ++ m) = Xj l ++ Xj m
  | [], _ => rfl
  | c :: l, m => by show enc c ++ Xj (l ++ m) = _; rw [encs_app l m, Xj, List.append_assoc]
theorem encs_inj : ∀ (ks : List Int) (l m : List Cl) (x y : List UInt8), (∀ k ∈ ks, Vi k = true) → (∀ c ∈ l, XK c) → (∀ c ∈ m, XK c) → Vf l ks = true → Vf m ks = true → Xj l ++ x = Xj m ++ y → l = m
  | ks, l, m, x, y, hk, hl, hm, h1, h2, h => by
    have e1 := Q5 ks l x hk hl h1
    have e2 := Q5 ks m y hk hm h2
    rw [h, e2] at e1
    exact (Option.some.inj e1).symm
theorem isPrefix_iff {a b : List UInt8} : a.isPrefixOf b = true ↔ ∃ r, b = a ++ r := by
  rw [List.isPrefixOf_iff_prefix]
  exact ⟨fun ⟨r, h⟩ => ⟨r, h.symm⟩, fun ⟨r, h⟩ => ⟨r, h.symm⟩⟩
theorem areP_take {l : List Cl} {ks : List Int} (h : Vf l ks = true) (n : Nat) : Vf (l.take n) (ks.take n) = true := by
  unfold Vf at *
  simp only [Bool.and_eq_true, decide_eq_true_eq] at *
  refine ⟨by simp [h.1], ?_⟩
  have := h.2
  clear h
  induction n generalizing l ks with
  | zero => simp [VQ]
  | succ n ih =>
    cases l with
    | nil => simp [VQ]
    | cons c l =>
      cases ks with
      | nil => simp [VQ] at this
      | cons k ks =>
        have : (XL c k && VQ l ks) = true := this
        simp only [Bool.and_eq_true] at this
        show (XL c k && VQ (l.take n) (ks.take n)) = true
        rw [this.1, ih this.2]; rfl
theorem span_cells {n : Int} {ks : List Int} {l m : List Cl} (hk : ∀ k ∈ ks, Vi k = true) (hl : ∀ c ∈ l, XK c) (hm : ∀ c ∈ m, XK c) (h1 : Vf l ks = true) (h2 : Vf m ks = true) (j : Nat) :
    (by8 n.toNat :: Xj (l.take j)).isPrefixOf (by8 n.toNat :: Xj m) = decide (l.take j = m.take j) := by
  apply Bool.eq_iff_iff.2
  rw [isPrefix_iff, decide_eq_true_eq]
  constructor
  · rintro ⟨r, h⟩
    injection h with _ h
    have e : Xj m = Xj (m.take j) ++ Xj (m.drop j) := by rw [← encs_app, List.take_append_drop]
    rw [e] at h
    exact encs_inj (ks.take j) _ _ _ _ (fun k hk' => hk k (List.mem_of_mem_take hk')) (fun c hc => hl c (List.mem_of_mem_take hc)) (fun c hc => hm c (List.mem_of_mem_take hc)) (areP_take h1 j) (areP_take h2 j) h.symm
  · intro h
    refine ⟨Xj (m.drop j), ?_⟩
    have e : Xj m = Xj (m.take j) ++ Xj (m.drop j) := by rw [← encs_app, List.take_append_drop]
    rw [h, List.cons_append, ← e]
end Go.Proofs.YtmiinbhnfojnbaaDoor

set_option maxRecDepth 10000
namespace Go.Proofs.YtmiinbhnfojnbaaDoor
open Go Eng
structure Jb where
  id : Int
  prio : Int
  body : ByteArray
  state : Int
  tries : Int
  who : Int
  til : Int
  deriving DecidableEq
def Jb.l (a : Jb) : List Value := [.int .i64 a.id, .int .i64 a.prio, .string a.body, .int .i64 a.state, .int .i64 a.tries, .int .i64 a.who, .int .i64 a.til]
def EJb : Enc Jb := ⟨7, Jb.l, fun _ => rfl, by decide, fun _ => rfl⟩
def VL (n : Int) : Cl := ⟨1, n, 0, mk [], false⟩
def txtC (s : ByteArray) : Cl := ⟨3, 0, 0, s, false⟩
def UU (j : Jb) : Int := if j.state = 1 then 9 - j.prio else if j.state = 2 then j.til else 0
def Uk (j : Jb) : List Cl := [VL j.state, VL (UU j), VL j.id]
def rest4 (j : Jb) : List Cl := [VL j.prio, txtC j.body, VL j.tries, VL j.who]
def row7 (j : Jb) : List Cl := Uk j ++ rest4 j
def X0 (j : Jb) : ByteArray := mk (by8 1 :: Xj (Uk j))
def valJ (j : Jb) : ByteArray := mk (Xj (rest4 j))
def prJ (j : Jb) : Pr := ⟨X0 j, valJ j⟩
abbrev kK : List Int := [1, 1, 1]
abbrev kR : List Int := [1, 3, 1, 1]
structure JOk (j : Jb) : Prop where
  id : 1 ≤ j.id ∧ j.id ≤ 1000
  prio : 0 ≤ j.prio ∧ j.prio ≤ 9
  body : (bl j.body).length ≤ 15
  state : 1 ≤ j.state ∧ j.state ≤ 3
  tries : 0 ≤ j.tries ∧ j.tries ≤ 100
  who : 0 ≤ j.who ∧ j.who ≤ 1000
  til : 0 ≤ j.til ∧ j.til ≤ 1099511627776
  free : j.state ≠ 2 → j.til = 0
theorem ord_bound {j : Jb} (h : JOk j) : 0 ≤ UU j ∧ UU j ≤ 1099511627776 := by
  obtain ⟨_, h2, _, _, _, _, h7, _⟩ := h
  unfold UU
  split
  · omega
  · split <;> omega
theorem numC_ok {n : Int} (h0 : 0 ≤ n) (h : n ≤ 1099511627776) : XK (VL n) := ⟨⟨h0, by show n < _; omega⟩, ⟨by show _ ≤ (0 : Int); omega, by show (0 : Int) < _; omega⟩, by show (bl (mk [])).length ≤ _; simp [YT]⟩
theorem txtC_ok {s : ByteArray} (h : (bl s).length ≤ 1000) : XK (txtC s) := ⟨⟨by show _ ≤ (0 : Int); omega, by show (0 : Int) < _; omega⟩, ⟨by show _ ≤ (0 : Int); omega, by show (0 : Int) < _; omega⟩, h⟩
theorem numC_p (n : Int) : XL (VL n) 1 = true := by
  unfold XL VL
  simp [YT]
theorem txtC_p (s : ByteArray) : XL (txtC s) 3 = true := by
  unfold XL txtC
  simp
theorem key3_ok {j : Jb} (h : JOk j) : ∀ c ∈ Uk j, XK c := by
  have := ord_bound h
  have h1 := h.id
  have h2 := h.state
  intro c hc
  simp only [Uk, List.mem_cons, List.not_mem_nil, or_false] at hc
  rcases hc with rfl | rfl | rfl <;> exact numC_ok (by omega) (by omega)
theorem rest4_ok {j : Jb} (h : JOk j) : ∀ c ∈ rest4 j, XK c := by
  have h1 := h.prio
  have h2 := h.tries
  have h3 := h.who
  have h4 := h.body
  intro c hc
  simp only [rest4, List.mem_cons, List.not_mem_nil, or_false] at hc
  rcases hc with rfl | rfl | rfl | rfl
  · exact numC_ok (by omega) (by omega)
  · exact txtC_ok (by omega)
  · exact numC_ok (by omega) (by omega)
  · exact numC_ok (by omega) (by omega)
theorem row7_ok {j : Jb} (h : JOk j) : ∀ c ∈ row7 j, XK c := by
  intro c hc
  rcases List.mem_append.1 hc with h1 | h1
  · exact key3_ok h c h1
  · exact rest4_ok h c h1
theorem key3_are (j : Jb) : Vf (Uk j) kK = true := by
  unfold Vf Uk
  simp only [VQ, numC_p]
  rfl
theorem row7_are (j : Jb) : Vf (row7 j) (kK ++ kR) = true := by
  unfold Vf row7 Uk rest4
  simp only [List.cons_append, List.nil_append, VQ, numC_p, txtC_p]
  rfl
theorem enc_num {n : Int} : enc (VL n) = by8 (dg n.toNat).length :: dg n.toNat := by
  unfold enc VL
  rw [if_pos rfl]
theorem VT {n : Int} {k : Nat} (h0 : 0 ≤ n) (h : n.toNat < 256 ^ k) : (enc (VL n)).length ≤ k + 1 := by
  rw [enc_num]
  have := VA k _ h
  simp; omega
theorem enc_txt {s : ByteArray} : enc (txtC s) = esc (bl s) ++ [0, 1] := by
  unfold enc txtC
  rw [if_neg (by simp), if_neg (by simp), if_pos rfl]
theorem keyJ_len {j : Jb} (h : JOk j) : (by8 1 :: Xj (Uk j)).length ≤ 24 := by
  have ho := ord_bound h
  have h1 := h.id
  have h2 := h.state
  have l1 := VT (n := j.state) (k := 1) (by omega) (by show _ < 256; omega)
  have l2 := VT (n := UU j) (k := 6) (by omega) (by show _ < 281474976710656; omega)
  have l3 := VT (n := j.id) (k := 2) (by omega) (by show _ < 65536; omega)
  simp only [Uk, Xj, List.length_cons, List.length_append, List.append_nil, List.length_nil]
  omega
theorem valJ_len {j : Jb} (h : JOk j) : (Xj (rest4 j)).length ≤ 40 := by
  have h1 := h.prio
  have h2 := h.tries
  have h3 := h.who
  have h4 := h.body
  have l1 := VT (n := j.prio) (k := 1) (by omega) (by show _ < 256; omega)
  have l2 := esc_len (bl j.body)
  have l3 := VT (n := j.tries) (k := 1) (by omega) (by show _ < 256; omega)
  have l4 := VT (n := j.who) (k := 2) (by omega) (by show _ < 65536; omega)
  simp only [rest4, Xj, enc_txt, List.length_cons, List.length_append, List.append_nil, List.length_nil]
  omega
theorem keyB_7 (j : Jb) : keyB 1 kK (row7 j) = by8 1 :: Xj (Uk j) := rfl
theorem valB_7 (j : Jb) : valB kK (row7 j) = Xj (rest4 j) := rfl
theorem valid7 : Uh 1 kK kR = true := by decide
theorem row7_R {j : Jb} (h : JOk j) : rowR 1 kK kR (row7 j) = (by8 1 :: Xj (Uk j), Xj (rest4 j), 0) := by
  have h1 := keyJ_len h
  have h2 := valJ_len h
  unfold rowR
  rw [if_pos (by unfold rowOk; rw [valid7, row7_are]; rfl), keyB_7, valB_7, if_neg (by omega)]
theorem read7 {j : Jb} (h : JOk j) : readR 1 kK kR (by8 1 :: Xj (Uk j)) (Xj (rest4 j)) = (row7 j, 0) := readR_row (row7_ok h) (row7_R h)
theorem chkJ {j : Jb} (h : JOk j) : chk (X0 j) [valJ j] = 0 := by
  have h1 := keyJ_len h
  have h2 := valJ_len h
  unfold chk X0 valJ
  rw [if_neg (by rw [YT]; simp), if_neg]
  rw [YT]
  simp only [List.any_cons, List.any_nil, YT, Bool.or_false, decide_eq_true_eq]
  omega
theorem chkJ0 {j : Jb} (h : JOk j) : chk (X0 j) [] = 0 := by
  have h1 := keyJ_len h
  unfold chk X0
  rw [if_neg (by rw [YT]; simp), if_neg]
  rw [YT]
  simp only [List.any_nil, Bool.false_eq_true, or_false]
  omega
def befJ (a b : Jb) : Bool :=
  if a.state ≠ b.state then decide (a.state < b.state)
  else if a.state = 1 ∧ a.prio ≠ b.prio then decide (b.prio < a.prio)
  else if a.state = 2 ∧ a.til ≠ b.til then decide (a.til < b.til)
  else decide (a.id < b.id)
theorem ZL {a b : Jb} : befJ a b = true ↔ a.state < b.state ∨ (a.state = b.state ∧ (UU a < UU b ∨ (UU a = UU b ∧ a.id < b.id))) := by
  unfold befJ UU
  by_cases h1 : a.state = b.state
  · rw [if_neg (by simpa using h1), ← h1]
    by_cases h2 : a.state = 1
    · by_cases h3 : a.prio = b.prio
      · rw [if_neg (by simp [h3]), if_neg (by omega), if_pos h2, if_pos h2, decide_eq_true_eq]; omega
      · rw [if_pos ⟨h2, h3⟩, if_pos h2, if_pos h2, decide_eq_true_eq]; omega
    · rw [if_neg (fun h => h2 h.1), if_neg h2, if_neg h2]
      by_cases h4 : a.state = 2
      · by_cases h5 : a.til = b.til
        · rw [if_neg (by simp [h5]), if_pos h4, if_pos h4, decide_eq_true_eq]; omega
        · rw [if_pos ⟨h4, h5⟩, if_pos h4, if_pos h4, decide_eq_true_eq]; omega
      · rw [if_neg (fun h => h4 h.1), if_neg h4, if_neg h4, decide_eq_true_eq]; omega
  · rw [if_pos h1, decide_eq_true_eq]; omega
theorem cmpC_num (a b : Int) : cmpC (VL a) (VL b) = c3 (decide (a < b)) (decide (b < a)) := by
  unfold cmpC VL
  simp only [ne_eq, not_true_eq_false, ↓reduceIte]
theorem c3_num (a b : Int) : (c3 (decide (a < b)) (decide (b < a)) < 0 ↔ a < b) ∧ (c3 (decide (a < b)) (decide (b < a)) = 0 ↔ a = b) := by
  unfold c3
  simp only [decide_eq_true_eq]
  split
  · omega
  · split <;> omega
theorem cmpL_key (a b : Jb) : (cmpL (Uk a) (Uk b) < 0 ↔ befJ a b = true) := by
  rw [ZL]
  unfold Uk
  simp only [cmpL, cmpC_num]
  obtain ⟨s1, s2⟩ := c3_num a.state b.state
  obtain ⟨o1, o2⟩ := c3_num (UU a) (UU b)
  obtain ⟨i1, i2⟩ := c3_num a.id b.id
  generalize c3 (decide (a.state < b.state)) (decide (b.state < a.state)) = s at *
  generalize c3 (decide (UU a < UU b)) (decide (UU b < UU a)) = o at *
  generalize c3 (decide (a.id < b.id)) (decide (b.id < a.id)) = i at *
  by_cases hs : s = 0
  · rw [if_pos hs]
    have := s2.1 hs
    by_cases ho : o = 0
    · rw [if_pos ho]
      have := o2.1 ho
      by_cases hi : i = 0
      · rw [if_pos hi]
        have := i2.1 hi
        omega
      · rw [if_neg hi]
        omega
    · rw [if_neg ho]
      have : UU a ≠ UU b := fun h => ho (o2.2 h)
      omega
  · rw [if_neg hs]
    have : a.state ≠ b.state := fun h => hs (s2.2 h)
    omega
theorem kind1 : ∀ k ∈ kK, Vi k = true := by decide
theorem cmp_key {a b : Jb} (ha : JOk a) (hb : JOk b) : V9 (X0 a) (X0 b) < 0 ↔ befJ a b = true := by
  rw [← cmpL_key]
  have hl : (V9 (X0 a) (X0 b) < 0) ↔ Op.bytesLess (by8 1 :: Xj (Uk a)) (by8 1 :: Xj (Uk b)) = true := by
    rw [show (by8 1 :: Xj (Uk a)) = bl (X0 a) from (YT _).symm, show (by8 1 :: Xj (Uk b)) = bl (X0 b) from (YT _).symm, less_cmpS, decide_eq_true_eq]
  rw [hl]
  rcases cells_three kK (Uk a) (Uk b) kind1 (key3_ok ha) (key3_ok hb) (key3_are a) (key3_are b) with ⟨e, d⟩ | ⟨e, d⟩ | ⟨e, d⟩
  · exact ⟨fun _ => e, fun _ => (d.cons _).less.1⟩
  · rw [d, less_irr]
    have : cmpL (Uk b) (Uk b) = 0 := by rw [← d]; rw [← d] at e; exact e
    rw [this]
    simp
  · rw [(d.cons _).less.2]
    constructor
    · intro h; cases h
    · omega
theorem keyJ_inj {a b : Jb} (ha : JOk a) (hb : JOk b) (h : X0 a = X0 b) : a.id = b.id := by
  rcases cells_three kK (Uk a) (Uk b) kind1 (key3_ok ha) (key3_ok hb) (key3_are a) (key3_are b) with ⟨e, d⟩ | ⟨e, d⟩ | ⟨e, d⟩
  · exact absurd (by have := congrArg bl h; unfold X0 at this; rw [YT, YT] at this; exact (List.cons.inj this).2) d.ne
  · unfold Uk at d
    simp only [List.cons.injEq, and_true] at d
    exact congrArg Cl.u d.2.2
  · exact absurd (by have := congrArg bl h; unfold X0 at this; rw [YT, YT] at this; exact (List.cons.inj this).2.symm) d.ne
end Go.Proofs.YtmiinbhnfojnbaaDoor

set_option maxRecDepth 10000
namespace Go.Proofs.YtmiinbhnfojnbaaDoor
open Go Eng
def insJ (x : Jb) : List Jb → List Jb
  | [] => [x]
  | a :: l => if befJ a x = true then a :: insJ x l else x :: a :: l
def Vr (A : List Jb) : List Jb := A.foldl (fun o x => insJ x o) []
theorem mem_insJ {x a : Jb} : ∀ {l : List Jb}, a ∈ insJ x l ↔ a = x ∨ a ∈ l
  | [] => by simp [insJ]
  | b :: l => by
    unfold insJ
    split
    · rw [List.mem_cons, mem_insJ, List.mem_cons]
      constructor
      · rintro (h | h | h) <;> simp [h]
      · rintro (h | h | h) <;> simp [h]
    · simp
theorem len_insJ {x : Jb} : ∀ {l : List Jb}, (insJ x l).length = l.length + 1
  | [] => rfl
  | b :: l => by
    unfold insJ
    split
    · simp [len_insJ]
    · simp
theorem befJ_trans {a b c : Jb} (h1 : befJ a b = true) (h2 : befJ b c = true) : befJ a c = true := by
  rw [ZL] at *
  omega
theorem befJ_irr (a : Jb) : befJ a a = false := by
  cases h : befJ a a with
  | false => rfl
  | true => rw [ZL] at h; omega
theorem befJ_tot {a b : Jb} (h : a.id ≠ b.id) (h1 : ¬ befJ a b = true) : befJ b a = true := by
  rw [ZL] at *
  omega
def SJ (l : List Jb) : Prop := l.Pairwise fun a b => befJ a b = true
theorem sj_ins {x : Jb} : ∀ {l : List Jb}, SJ l → (∀ a ∈ l, a.id ≠ x.id) → SJ (insJ x l)
  | [], _, _ => by unfold insJ; exact List.pairwise_singleton _ _
  | b :: l, hs, hd => by
    obtain ⟨hb, hs'⟩ := List.pairwise_cons.1 hs
    unfold insJ
    split
    · rename_i h
      refine List.pairwise_cons.2 ⟨fun a ha => ?_, sj_ins hs' fun a ha => hd a (by simp [ha])⟩
      rcases mem_insJ.1 ha with rfl | h1
      · exact h
      · exact hb a h1
    · rename_i h
      have hx := befJ_tot (hd b (by simp)) h
      refine List.pairwise_cons.2 ⟨fun a ha => ?_, hs⟩
      rcases List.mem_cons.1 ha with rfl | h1
      · exact hx
      · exact befJ_trans hx (hb a h1)
structure AOk (A : List Jb) (last : Int) : Prop where
  ok : ∀ a ∈ A, JOk a
  inc : A.Pairwise fun a b => a.id < b.id
  le : ∀ a ∈ A, a.id ≤ last
theorem AOk.nil (n : Int) : AOk [] n := ⟨fun _ h => (by cases h), List.Pairwise.nil, fun _ h => (by cases h)⟩
theorem foldl_ins : ∀ (A o : List Jb), (∀ a, a ∈ A.foldl (fun o x => insJ x o) o ↔ a ∈ o ∨ a ∈ A) ∧ (A.foldl (fun o x => insJ x o) o).length = o.length + A.length
  | [], o => by simp
  | x :: A, o => by
    obtain ⟨h1, h2⟩ := foldl_ins A (insJ x o)
    rw [List.foldl_cons]
    refine ⟨fun a => ?_, ?_⟩
    · rw [h1, mem_insJ, List.mem_cons]
      constructor
      · rintro ((h | h) | h) <;> simp [h]
      · rintro (h | h | h) <;> simp [h]
    · rw [h2, len_insJ]; simp; omega
theorem V1 {A : List Jb} {a : Jb} : a ∈ Vr A ↔ a ∈ A := by
  have := (foldl_ins A []).1 a
  simpa [Vr] using this
theorem Gk (A : List Jb) : (Vr A).length = A.length := by
  have := (foldl_ins A []).2
  simpa [Vr] using this
theorem foldl_sj : ∀ (A o : List Jb), SJ o → A.Pairwise (fun a b => a.id < b.id) → (∀ a ∈ o, ∀ b ∈ A, a.id < b.id) → SJ (A.foldl (fun o x => insJ x o) o)
  | [], o, h, _, _ => h
  | x :: A, o, h, hp, hd => by
    obtain ⟨hx, hp'⟩ := List.pairwise_cons.1 hp
    rw [List.foldl_cons]
    refine foldl_sj A (insJ x o) (sj_ins h fun a ha => by have := hd a ha x (by simp); omega) hp' fun a ha b hb => ?_
    rcases mem_insJ.1 ha with rfl | h1
    · exact hx b hb
    · exact hd a h1 b (by simp [hb])
theorem AOk.sj {A : List Jb} {n : Int} (h : AOk A n) : SJ (Vr A) := foldl_sj A [] List.Pairwise.nil h.inc fun a ha => by cases ha
theorem srt_of_sj : ∀ {l : List Jb}, SJ l → (∀ a ∈ l, JOk a) → Srt (l.map prJ)
  | [], _, _ => List.Pairwise.nil
  | x :: l, h, ho => by
    obtain ⟨hx, h'⟩ := List.pairwise_cons.1 h
    refine List.pairwise_cons.2 ⟨fun p hp => ?_, srt_of_sj h' fun a ha => ho a (by simp [ha])⟩
    obtain ⟨a, ha, rfl⟩ := List.mem_map.1 hp
    exact (cmp_key (ho x (by simp)) (ho a (by simp [ha]))).2 (hx a ha)
def Q8 (A : List Jb) : List Pr := (Vr A).map prJ
theorem AOk.srt {A : List Jb} {n : Int} (h : AOk A n) : Srt (Q8 A) := srt_of_sj h.sj fun a ha => h.ok a (V1.1 ha)
theorem QU {A : List Jb} {p : Pr} : p ∈ Q8 A ↔ ∃ a ∈ A, prJ a = p := by
  unfold Q8
  rw [List.mem_map]
  constructor
  · rintro ⟨a, h1, h2⟩; exact ⟨a, V1.1 h1, h2⟩
  · rintro ⟨a, h1, h2⟩; exact ⟨a, V1.2 h1, h2⟩
theorem Q2 (A : List Jb) : (Q8 A).length = A.length := by unfold Q8; rw [List.length_map, Gk]
theorem AOk.vok {A : List Jb} {n : Int} (h : AOk A n) : VOk (Q8 A) := fun p hp => by
  obtain ⟨a, ha, rfl⟩ := QU.1 hp
  exact chkJ (h.ok a ha)
def fnd (A : List Jb) (id : Int) : Option Jb := A.find? fun a => decide (a.id = id)
theorem XG {A : List Jb} {id : Int} {j : Jb} (h : fnd A id = some j) : j ∈ A ∧ j.id = id := by
  unfold fnd at h
  exact ⟨List.mem_of_find?_eq_some h, by simpa using List.find?_some h⟩
theorem fnd_none {A : List Jb} {id : Int} (h : fnd A id = none) : ∀ a ∈ A, a.id ≠ id := fun a ha => by
  unfold fnd at h
  simpa using List.find?_eq_none.1 h a ha
theorem Q4 : ∀ {A : List Jb}, A.Pairwise (fun a b => a.id < b.id) → ∀ {a b : Jb}, a ∈ A → b ∈ A → a.id = b.id → a = b
  | [], _, _, _, h, _, _ => by cases h
  | x :: A, hp, a, b, ha, hb, e => by
    obtain ⟨hx, hp'⟩ := List.pairwise_cons.1 hp
    rcases List.mem_cons.1 ha with h1 | h1
    · rcases List.mem_cons.1 hb with h2 | h2
      · rw [h1, h2]
      · have := hx b h2; rw [h1] at e; omega
    · rcases List.mem_cons.1 hb with h2 | h2
      · have := hx a h1; rw [h2] at e; omega
      · exact Q4 hp' h1 h2 e
theorem Z7 {A : List Jb} (hp : A.Pairwise (fun a b => a.id < b.id)) {j : Jb} (h : j ∈ A) : fnd A j.id = some j := by
  cases hf : fnd A j.id with
  | none => exact absurd rfl (fnd_none hf j h)
  | some x => obtain ⟨h1, h2⟩ := XG hf; rw [Q4 hp h1 h h2]
def Vz (A : List Jb) (j : Jb) : List Jb := A.map fun a => if a.id = j.id then j else a
def setJ (A : List Jb) (j : Jb) : List Jb := if (fnd A j.id).isSome then Vz A j else A ++ [j]
def delJ (A : List Jb) (id : Int) : List Jb := A.filter fun a => !decide (a.id = id)
theorem ZU {A : List Jb} {j x : Jb} (hp : A.Pairwise (fun a b => a.id < b.id)) (hj : (fnd A j.id).isSome = true) : x ∈ Vz A j ↔ x = j ∨ (x ∈ A ∧ x.id ≠ j.id) := by
  unfold Vz
  rw [List.mem_map]
  constructor
  · rintro ⟨a, ha, he⟩
    split at he
    · exact .inl he.symm
    · rename_i h; subst he; exact .inr ⟨ha, h⟩
  · rintro (rfl | ⟨h1, h2⟩)
    · obtain ⟨y, hy⟩ := Option.isSome_iff_exists.1 hj
      obtain ⟨h1, h2⟩ := XG hy
      exact ⟨y, h1, by rw [if_pos h2]⟩
    · exact ⟨x, h1, by rw [if_neg h2]⟩
theorem ZG {A : List Jb} {j x : Jb} (hp : A.Pairwise (fun a b => a.id < b.id)) : x ∈ setJ A j ↔ x = j ∨ (x ∈ A ∧ x.id ≠ j.id) := by
  unfold setJ
  split
  · rename_i h; exact ZU hp h
  · rename_i h
    have hn : fnd A j.id = none := by simpa using h
    have := fnd_none hn
    rw [List.mem_append, List.mem_singleton]
    constructor
    · rintro (h1 | h1)
      · exact .inr ⟨h1, this x h1⟩
      · exact .inl h1
    · rintro (h1 | h1)
      · exact .inr h1
      · exact .inl h1.1
theorem Wb {A : List Jb} {id : Int} {x : Jb} : x ∈ delJ A id ↔ x ∈ A ∧ x.id ≠ id := by
  unfold delJ
  rw [List.mem_filter]
  simp
theorem ids_rep (A : List Jb) (j : Jb) : (Vz A j).map (·.id) = A.map (·.id) := by
  unfold Vz
  rw [List.map_map]
  apply List.map_congr_left
  intro a _
  simp only [Function.comp]
  split
  · rename_i h; exact h.symm
  · rfl
theorem inc_ids {A B : List Jb} (h : B.map (·.id) = A.map (·.id)) (hp : A.Pairwise (fun a b => a.id < b.id)) : B.Pairwise (fun a b => a.id < b.id) := by
  have h1 : (A.map (·.id)).Pairwise (· < ·) := List.pairwise_map.2 hp
  rw [← h] at h1
  exact List.pairwise_map.1 h1
theorem AOk.rep {A : List Jb} {n : Int} (h : AOk A n) {j : Jb} (hj : JOk j) (hf : (fnd A j.id).isSome = true) : AOk (Vz A j) n := by
  obtain ⟨y, hy⟩ := Option.isSome_iff_exists.1 hf
  obtain ⟨h1, h2⟩ := XG hy
  refine ⟨fun a ha => ?_, inc_ids (ids_rep A j) h.inc, fun a ha => ?_⟩
  · rcases (ZU h.inc hf).1 ha with rfl | h3
    · exact hj
    · exact h.ok a h3.1
  · rcases (ZU h.inc hf).1 ha with rfl | h3
    · rw [← h2]; exact h.le y h1
    · exact h.le a h3.1
theorem AOk.put {A : List Jb} {n : Int} (h : AOk A n) {j : Jb} (hj : JOk j) (hi : j.id = n + 1) : AOk (A ++ [j]) (n + 1) := by
  refine ⟨fun a ha => ?_, ?_, fun a ha => ?_⟩
  · rcases List.mem_append.1 ha with h1 | h1
    · exact h.ok a h1
    · rw [List.mem_singleton.1 h1]; exact hj
  · refine List.pairwise_append.2 ⟨h.inc, List.pairwise_singleton _ _, fun a ha b hb => ?_⟩
    rw [List.mem_singleton.1 hb]
    have := h.le a ha
    omega
  · rcases List.mem_append.1 ha with h1 | h1
    · have := h.le a h1; omega
    · rw [List.mem_singleton.1 h1]; omega
theorem AOk.del {A : List Jb} {n : Int} (h : AOk A n) (id : Int) : AOk (delJ A id) n :=
  ⟨fun a ha => h.ok a (Wb.1 ha).1, h.inc.sublist (List.filter_sublist), fun a ha => h.le a (Wb.1 ha).1⟩
theorem fnd_none_last {A : List Jb} {n : Int} (h : AOk A n) {id : Int} (hi : n < id) : fnd A id = none := by
  cases hf : fnd A id with
  | none => rfl
  | some x => obtain ⟨h1, h2⟩ := XG hf; have := h.le x h1; omega
theorem key_ne {A : List Jb} {n : Int} (h : AOk A n) {a j : Jb} (ha : a ∈ A) (hj : JOk j) (hne : a.id ≠ j.id) : ¬ (prJ a).key = X0 j := fun e => hne (keyJ_inj (h.ok a ha) hj e)
theorem val_mapJ {A : List Jb} {n : Int} (h : AOk A n) {j : Jb} (hj : j ∈ A) : val (Q8 A) (X0 j) = some (valJ j) := Z2 h.srt (a := prJ j) (QU.2 ⟨j, hj, rfl⟩)
theorem mem_delE {l : List Pr} (hs : Srt l) {k : ByteArray} (hc : chk k [] = 0) {p : Pr} : p ∈ delE l k ↔ p ∈ l ∧ p.key ≠ k := by
  have e := eff_delete hs k
  have hs' := srt_delE hs k
  unfold delE at hs' ⊢
  rw [if_pos hc] at hs' ⊢
  generalize (if isP l k (VV l k) = true then l.take (VV l k) ++ l.drop (VV l k + 1) else l) = m at e hs' ⊢
  have key : ∀ {m : List Pr}, Srt m → ∀ a : Pr, (a ∈ m ↔ val m a.key = some a.value) := fun {m} hm a => by
    constructor
    · exact Z2 hm
    · intro hv
      unfold val at hv
      obtain ⟨b, hb, he⟩ := Option.map_eq_some_iff.1 hv
      have h1 := List.mem_of_find?_eq_some hb
      have h2 : b.key = a.key := by simpa using List.find?_some hb
      obtain ⟨k, v⟩ := b
      obtain ⟨k', v'⟩ := a
      simp only at he h2
      subst he h2
      exact h1
  have hk0 : val m k = none := by
    by_cases h : isP l k (VV l k) = true
    · exact e.self (by rw [if_pos h])
    · have h0 := e.err (by rw [if_neg h]; decide)
      rw [h0, val_isP hs, if_neg h]
  rw [key hs' p, key hs p]
  by_cases h : p.key = k
  · rw [h, hk0]; simp
  · rw [e.other _ (fun x => h x.symm)]; simp [h]
end Go.Proofs.YtmiinbhnfojnbaaDoor

set_option maxRecDepth 10000
namespace Go.Proofs.YtmiinbhnfojnbaaDoor
open Go Eng
theorem xload_table (a : Value) (H : AHeap) : UH Tryd.prog T.api_Table a H = ldN 3 H a := by kernel_rfl
theorem XD (a : Value) (H : AHeap) : UH Tryd.prog T.api_Job a H = ldN 7 H a := by kernel_rfl
theorem q_number' (n : Int) (H : AHeap) (h0 : 0 ≤ n) (h1 : n ≤ 1099511627776) : CC F.jobs_number [.int .i64 n] H = some (.agg ⟨(VL n).l⟩, H) := by
  have e : IntKind.wrap .u64 n = n := QT ⟨h0, by omega⟩
  apply Yj _ (d_jobs_number _ H) rfl
  rotate_left 2
  · simp (disch := first | with_reducible rfl | assumption | omega | rfl | (simp only [go_sem]; first | done | omega)) only [go_sem, ↓reduceIte, reduceCtorEq, Nat.reduceEqDiff, Nat.reduceAdd, Nat.reduceSub, Nat.reduceMul, Nat.reduceDiv, Nat.reduceMod, Nat.reduceLeDiff, Nat.reduceLT, Nat.reduceBEq, Int.reduceEq, Int.reduceBEq, Int.reduceBNe, Int.reduceLT, Int.reduceLE, Int.reduceAdd, Int.reduceSub, Int.reduceNeg, Int.reduceToNat, Int.reducePow, Nat.reducePow, Int.reduceMul, Int.reduceDiv, ↓Ue, e, VW]
    rfl
  · (repeat (first | exact Fr.refl _ | refine Fr.push ?_ _ | refine Fr.set ?_ _ _ (by intro h; first | omega | (simp only [go_sem] at h; omega))))
theorem Gs (n : Int) (H : AHeap) (h0 : 0 ≤ n) (h1 : n ≤ 1099511627776) : CC F.jobs_number [.int .i64 n] H = some (.agg #[.int .i64 1, .int .u64 n, .int .i64 0, .string (mk []), .bool false], H) := q_number' n H h0 h1
theorem q_table (H : AHeap) : ∃ kv rv H', CC F.jobs_table [] H = some (tbV 1 kv rv, H') ∧ Yq H H' ∧ KR H' kv kK ∧ KR H' rv kR ∧ Eng.one kv = true ∧ Eng.one rv = true := by
  obtain ⟨H1, hH1⟩ : ∃ H1, H.push (.cells [.int .i64 0, .slice none 0 0, .slice none 0 0] T.api_Table true) = H1 := ⟨_, rfl⟩
  have s1 : Yq H H1 := by rw [← hH1]; exact (Fr.refl H).push _
  have n1 : H1.n = H.n + 1 := by rw [← hH1]; rfl
  obtain ⟨H2, hH2⟩ : ∃ H2, H1.push (.cells [.int .i64 1, .int .i64 1, .int .i64 1] T.api_CellKind true) = H2 := ⟨_, rfl⟩
  have s2 : Yq H1 H2 := by rw [← hH2]; exact (Fr.refl H1).push _
  have n2 : H2.n = H1.n + 1 := by rw [← hH2]; rfl
  have f2 : H2.f H1.n = .cells (EK.cells kK) T.api_CellKind true := by rw [← hH2]; exact Yu rfl
  obtain ⟨H3, hH3⟩ : ∃ H3, H2.push (.cells [.int .i64 1, .int .i64 3, .int .i64 1, .int .i64 1] T.api_CellKind true) = H3 := ⟨_, rfl⟩
  have s3 : Yq H2 H3 := by rw [← hH3]; exact (Fr.refl H2).push _
  have n3 : H3.n = H2.n + 1 := by rw [← hH3]; rfl
  have f3 : H3.f H2.n = .cells (EK.cells kR) T.api_CellKind true := by rw [← hH3]; exact Yu rfl
  have g3 : H3.f H.n = .cells [.int .i64 0, .slice none 0 0, .slice none 0 0] T.api_Table true := by
    rw [(s2.trans s3).f (by omega) fun h => h, ← hH1]; exact Yu rfl
  obtain ⟨H4, hH4⟩ : ∃ H4, H3.set H.n (.cells [.int .i64 1, .slice (some ⟨H1.n, 0, none⟩) 3 6, .slice (some ⟨H2.n, 0, none⟩) 4 8] T.api_Table true) = H4 := ⟨_, rfl⟩
  have s4 : Fr (fun b => b = H.n) H3 H4 := by rw [← hH4]; exact Fr.set (Fr.refl H3) _ _ fun _ => rfl
  have g4 : H4.f H.n = .cells [.int .i64 1, .slice (some ⟨H1.n, 0, none⟩) 3 6, .slice (some ⟨H2.n, 0, none⟩) 4 8] T.api_Table true := by rw [← hH4]; exact YC
  have st : Yq H H4 := ((s1.trans s2).trans s3).then s4 fun b hb h => by omega
  have k1 : KR H3 (.slice (some ⟨H1.n, 0, none⟩) 3 6) kK := (newE (E := EK) (l := kK) (by omega) f2).still s3
  have k2 : KR H3 (.slice (some ⟨H2.n, 0, none⟩) 4 8) kR := newE (E := EK) (l := kR) (by omega) f3
  refine ⟨.slice (some ⟨H1.n, 0, none⟩) 3 6, .slice (some ⟨H2.n, 0, none⟩) 4 8, H4, ?_, st, k1.keep s4 (fun b hb h => by cases hb; dsimp only at h; omega), k2.keep s4 (fun b hb h => by cases hb; dsimp only at h; omega), rfl, rfl⟩
  refine (d_jobs_table H (r := (tbV 1 (.slice (some ⟨H1.n, 0, none⟩) 3 6) (.slice (some ⟨H2.n, 0, none⟩) 4 8), H4)) ?_).trans (congrArg some (WK rfl))
  simp (disch := first | with_reducible rfl | assumption | omega | rfl | (simp only [go_sem]; first | done | omega)) only [go_sem, ↓reduceIte, reduceCtorEq, Nat.reduceEqDiff, Nat.reduceAdd, Nat.reduceSub, Nat.reduceMul, Nat.reduceDiv, Nat.reduceMod, Nat.reduceLeDiff, Nat.reduceLT, Nat.reduceBEq, Int.reduceEq, Int.reduceBEq, Int.reduceBNe, Int.reduceLT, Int.reduceLE, Int.reduceAdd, Int.reduceSub, Int.reduceNeg, Int.reduceToNat, Int.reducePow, Nat.reducePow, Int.reduceMul, Int.reduceDiv, ↓UR, hH1, hH2, hH3, g3, hH4, g4, xload_table]
set_option maxHeartbeats 1000000 in
theorem q_row (j : Jb) (h : JOk j) (H : AHeap) : ∃ v H', CC F.jobs_row [.agg ⟨j.l⟩] H = some (v, H') ∧ Yq H H' ∧ CR H' v (row7 j) := by
  obtain ⟨hid, hprio, hbody, hstate, htries, hwho, htil, hfree⟩ := h
  obtain ⟨id, prio, body, state, tries, who, til⟩ := j
  dsimp only at hid hprio hbody hstate htries hwho htil hfree
  obtain ⟨H1, hH1⟩ : ∃ H1, H.push (.cells [.int .i64 id, .int .i64 prio, .string body, .int .i64 state, .int .i64 tries, .int .i64 who, .int .i64 til] T.api_Job true) = H1 := ⟨_, rfl⟩
  have s1 : Yq H H1 := by rw [← hH1]; exact (Fr.refl H).push _
  have n1 : H1.n = H.n + 1 := by rw [← hH1]; rfl
  have f1 : H1.f H.n = .cells [.int .i64 id, .int .i64 prio, .string body, .int .i64 state, .int .i64 tries, .int .i64 who, .int .i64 til] T.api_Job true := by rw [← hH1]; exact Yu rfl
  obtain ⟨o, ho⟩ : ∃ o, UU ⟨id, prio, body, state, tries, who, til⟩ = o := ⟨_, rfl⟩
  have hob : 0 ≤ o ∧ o ≤ 1099511627776 := by
    rw [← ho]; unfold UU; dsimp only
    split
    · omega
    · split <;> omega
  obtain ⟨H2, hH2⟩ : ∃ H2, H1.push (.cells (ECl.cells (row7 ⟨id, prio, body, state, tries, who, til⟩)) T.api_Cell true) = H2 := ⟨_, rfl⟩
  have s2 : Yq H1 H2 := by rw [← hH2]; exact (Fr.refl H1).push _
  have n2 : H2.n = H1.n + 1 := by rw [← hH2]; rfl
  have f2 : H2.f H1.n = .cells (ECl.cells (row7 ⟨id, prio, body, state, tries, who, til⟩)) T.api_Cell true := by rw [← hH2]; exact Yu rfl
  have e : ECl.cells (row7 ⟨id, prio, body, state, tries, who, til⟩) = [.int .i64 1, .int .u64 state, .int .i64 0, .string (mk []), .bool false, .int .i64 1, .int .u64 o, .int .i64 0, .string (mk []), .bool false, .int .i64 1, .int .u64 id, .int .i64 0, .string (mk []), .bool false, .int .i64 1, .int .u64 prio, .int .i64 0, .string (mk []), .bool false, .int .i64 3, .int .u64 0, .int .i64 0, .string body, .bool false, .int .i64 1, .int .u64 tries, .int .i64 0, .string (mk []), .bool false, .int .i64 1, .int .u64 who, .int .i64 0, .string (mk []), .bool false] := by
    rw [← ho]; rfl
  rw [e] at hH2
  refine ⟨.slice (some ⟨H1.n, 0, none⟩) 7 14, H2, ?_, s1.trans s2, newE (E := ECl) (l := row7 ⟨id, prio, body, state, tries, who, til⟩) (by omega) f2⟩
  have m1 := Gs state H1 (by omega) (by omega)
  have m2 := Gs o H1 hob.1 hob.2
  have m3 := Gs id H1 (by omega) (by omega)
  have m4 := Gs prio H1 (by omega) (by omega)
  have m5 := Gs tries H1 (by omega) (by omega)
  have m6 := Gs who H1 (by omega) (by omega)
  show CC F.jobs_row [.agg #[.int .i64 id, .int .i64 prio, .string body, .int .i64 state, .int .i64 tries, .int .i64 who, .int .i64 til]] H = _
  refine (d_jobs_row _ H (r := (.slice (some ⟨H1.n, 0, none⟩) 7 14, H2)) ?_).trans (congrArg some (WK rfl))
  by_cases c1 : state = 1
  · have : o = 9 - prio := by rw [← ho]; unfold UU; rw [if_pos c1]
    subst c1
    subst this
    simp (disch := first | with_reducible rfl | assumption | omega | rfl | (simp only [go_sem]; first | done | omega)) only [go_sem, ↓reduceIte, reduceCtorEq, Nat.reduceEqDiff, Nat.reduceAdd, Nat.reduceSub, Nat.reduceMul, Nat.reduceDiv, Nat.reduceMod, Nat.reduceLeDiff, Nat.reduceLT, Nat.reduceBEq, Int.reduceEq, Int.reduceBEq, Int.reduceBNe, Int.reduceLT, Int.reduceLE, Int.reduceAdd, Int.reduceSub, Int.reduceNeg, Int.reduceToNat, Int.reducePow, Nat.reducePow, Int.reduceMul, Int.reduceDiv, ↓Un, hH1, f1, ↓Ya m1, Ya m1, ↓Ya m2, Ya m2, ↓Ya m3, Ya m3, ↓Ya m4, Ya m4, ↓Ya m5, Ya m5, ↓Ya m6, Ya m6, hH2]
  · by_cases c2 : state = 2
    · have : o = til := by rw [← ho]; unfold UU; rw [if_neg c1, if_pos c2]
      subst c2
      subst this
      simp (disch := first | with_reducible rfl | assumption | omega | rfl | (simp only [go_sem]; first | done | omega)) only [go_sem, ↓reduceIte, reduceCtorEq, Nat.reduceEqDiff, Nat.reduceAdd, Nat.reduceSub, Nat.reduceMul, Nat.reduceDiv, Nat.reduceMod, Nat.reduceLeDiff, Nat.reduceLT, Nat.reduceBEq, Int.reduceEq, Int.reduceBEq, Int.reduceBNe, Int.reduceLT, Int.reduceLE, Int.reduceAdd, Int.reduceSub, Int.reduceNeg, Int.reduceToNat, Int.reducePow, Nat.reducePow, Int.reduceMul, Int.reduceDiv, ↓Un, hH1, f1, ↓Ya m1, Ya m1, ↓Ya m2, Ya m2, ↓Ya m3, Ya m3, ↓Ya m4, Ya m4, ↓Ya m5, Ya m5, ↓Ya m6, Ya m6, hH2]
    · have : o = 0 := by rw [← ho]; unfold UU; rw [if_neg c1, if_neg c2]
      subst this
      simp (disch := first | with_reducible rfl | assumption | omega | rfl | (simp only [go_sem]; first | done | omega)) only [go_sem, ↓reduceIte, reduceCtorEq, Nat.reduceEqDiff, Nat.reduceAdd, Nat.reduceSub, Nat.reduceMul, Nat.reduceDiv, Nat.reduceMod, Nat.reduceLeDiff, Nat.reduceLT, Nat.reduceBEq, Int.reduceEq, Int.reduceBEq, Int.reduceBNe, Int.reduceLT, Int.reduceLE, Int.reduceAdd, Int.reduceSub, Int.reduceNeg, Int.reduceToNat, Int.reducePow, Nat.reducePow, Int.reduceMul, Int.reduceDiv, ↓Un, hH1, f1, c1, c2, ↓Ya m1, Ya m1, ↓Ya m2, Ya m2, ↓Ya m3, Ya m3, ↓Ya m4, Ya m4, ↓Ya m5, Ya m5, ↓Ya m6, Ya m6, hH2]
end Go.Proofs.YtmiinbhnfojnbaaDoor

set_option maxRecDepth 10000
namespace Go.Proofs.YtmiinbhnfojnbaaDoor
open Go Eng
theorem YX {x y : Option Value} {H : AHeap} {k : Value → AHeap → Res} (h : x = y) : Yb x H k = Yb y H k := by rw [h]
theorem YZ {x y : Option (Value × AHeap)} {k : Value → AHeap → Res} (h : x = y) : Yp x k = Yp y k := by rw [h]
theorem YR {x y : Option AHeap} {k : Value → AHeap → Res} (h : x = y) : Yr x k = Yr y k := by rw [h]
attribute [local congr] YX YZ YR
theorem mem_val {m : List Pr} (hm : Srt m) (a : Pr) : a ∈ m ↔ val m a.key = some a.value := by
  constructor
  · exact Z2 hm
  · intro hv
    unfold val at hv
    obtain ⟨b, hb, he⟩ := Option.map_eq_some_iff.1 hv
    have h1 := List.mem_of_find?_eq_some hb
    have h2 : b.key = a.key := by simpa using List.find?_some hb
    obtain ⟨k, v⟩ := b
    obtain ⟨k', v'⟩ := a
    simp only at he h2
    subst he h2
    exact h1
theorem putE_zero {l : List Pr} {a : Pr} (hc : chk a.key [a.value] = 0) (hl : l.length < 20000) : (putE l a).1 = 0 := by
  unfold putE
  rw [if_pos hc]
  unfold putP
  split
  · rfl
  · rw [if_neg (by omega)]
theorem mem_putE {l : List Pr} (hs : Srt l) {a : Pr} (hc : chk a.key [a.value] = 0) (hl : l.length < 20000) {p : Pr} : p ∈ (putE l a).2 ↔ p = a ∨ (p ∈ l ∧ p.key ≠ a.key) := by
  have h0 := putE_zero hc hl
  have hs' := srt_putE hs a
  have e := eff_put hs a
  unfold putE at h0 hs' ⊢
  rw [if_pos hc] at h0 hs' ⊢
  rw [mem_val hs', mem_val hs]
  by_cases h : p.key = a.key
  · rw [h, e.self h0]
    constructor
    · intro h1
      refine .inl ?_
      obtain ⟨k, v⟩ := p
      obtain ⟨k', v'⟩ := a
      simp only at h h1
      rw [h, Option.some.inj h1]
    · rintro (h1 | h1)
      · rw [h1]
      · exact absurd rfl h1.2
  · rw [e.other _ fun x => h x.symm]
    constructor
    · intro h1; exact .inr ⟨h1, h⟩
    · rintro (h1 | h1)
      · exact absurd (by rw [h1]) h
      · exact h1.1
theorem Zt {A : List Jb} (id : Int) : fnd A id = none ∨ ∃ o, fnd A id = some o := by
  cases h : fnd A id with
  | none => exact .inl rfl
  | some o => exact .inr ⟨o, rfl⟩
theorem map_set {A : List Jb} {n m : Int} (h : AOk A n) {j : Jb} (hj : JOk j) (h' : AOk (setJ A j) m) (hl : A.length < 20000) {M : List Pr} (hM : Srt M) (hMl : M.length < 20000) (hm : ∀ p, p ∈ M ↔ ∃ a ∈ A, a.id ≠ j.id ∧ prJ a = p) :
    (putE M (prJ j)).2 = Q8 (setJ A j) := by
  refine srt_ext (srt_putE hM _) h'.srt fun p => ?_
  rw [mem_putE hM (a := prJ j) (chkJ hj) hMl, QU]
  constructor
  · rintro (h1 | ⟨h1, _⟩)
    · exact ⟨j, (ZG h.inc).2 (.inl rfl), h1.symm⟩
    · obtain ⟨a, ha, hne, he⟩ := (hm p).1 h1
      exact ⟨a, (ZG h.inc).2 (.inr ⟨ha, hne⟩), he⟩
  · rintro ⟨a, ha, he⟩
    rcases (ZG h.inc).1 ha with h1 | ⟨h1, h2⟩
    · left; rw [← he, h1]
    · right
      refine ⟨(hm p).2 ⟨a, h1, h2, he⟩, ?_⟩
      rw [← he]
      exact key_ne h h1 hj h2
theorem getJ {A : List Jb} {n : Int} (h : AOk A n) {o : Jb} (ho : o ∈ A) : getE (Q8 A) (X0 o) = .tuple #[.string (valJ o), .int .i64 0] := by
  unfold getE
  rw [if_pos (chkJ0 (h.ok o ho)), getP_val h.srt, val_mapJ h ho]
theorem mem_mapDel {A : List Jb} {n : Int} (h : AOk A n) {o : Jb} (ho : o ∈ A) {p : Pr} : p ∈ delE (Q8 A) (X0 o) ↔ ∃ a ∈ A, a.id ≠ o.id ∧ prJ a = p := by
  rw [mem_delE h.srt (chkJ0 (h.ok o ho)), QU]
  constructor
  · rintro ⟨⟨a, ha, he⟩, hk⟩
    refine ⟨a, ha, fun e => hk ?_, he⟩
    rw [← he, Q4 h.inc ha ho e]
    rfl
  · rintro ⟨a, ha, hne, he⟩
    refine ⟨⟨a, ha, he⟩, ?_⟩
    rw [← he]
    exact key_ne h ha (h.ok o ho) hne
theorem map_del {A : List Jb} {n : Int} (h : AOk A n) {o : Jb} (ho : o ∈ A) : delE (Q8 A) (X0 o) = Q8 (delJ A o.id) := by
  refine srt_ext (srt_delE h.srt _) (h.del _).srt fun p => ?_
  rw [mem_mapDel h ho, QU]
  constructor
  · rintro ⟨a, ha, hne, he⟩; exact ⟨a, Wb.2 ⟨ha, hne⟩, he⟩
  · rintro ⟨a, ha, he⟩; exact ⟨a, (Wb.1 ha).1, (Wb.1 ha).2, he⟩
theorem rd7 {H : AHeap} {v : Value} {j : Jb} (r : Rd ECl H v (row7 j)) {i : Nat} (hi : i < 7) : ∃ b o, ixS 5 v (.int .i64 (i : Int)) = some (.pointer (some ⟨b, o, none⟩)) ∧ b < H.n ∧ UT (H.f b) o 5 = some ((row7 j)[i]'hi).l := by
  obtain ⟨b, o, h1, h2, h3, _⟩ := r.ix (q := .i64) (i := i) hi
  exact ⟨b, o, h1, h2, h3⟩
theorem Z8 {k : Blk} {o i : Nat} {c : Cl} (h : UT k o 5 = some c.l) (hi : i < 5) : X4 k (o + i) = c.l[i]? := X2 h hi
set_option maxHeartbeats 1000000 in
theorem q_job (j : Jb) (h : JOk j) (v : Value) (H : AHeap) (r : Rd ECl H v (row7 j)) : CC F.jobs_job [v] H = some (.agg ⟨j.l⟩, H) := by
  obtain ⟨hid, hprio, hbody, hstate, htries, hwho, htil, hfree⟩ := h
  obtain ⟨b0, o0, i0, l0, c0⟩ := rd7 r (i := 0) (by decide)
  obtain ⟨b1, o1, i1, l1, c1⟩ := rd7 r (i := 1) (by decide)
  obtain ⟨b2, o2, i2, l2, c2⟩ := rd7 r (i := 2) (by decide)
  obtain ⟨b3, o3, i3, l3, c3⟩ := rd7 r (i := 3) (by decide)
  obtain ⟨b4, o4, i4, l4, c4⟩ := rd7 r (i := 4) (by decide)
  obtain ⟨b5, o5, i5, l5, c5⟩ := rd7 r (i := 5) (by decide)
  obtain ⟨b6, o6, i6, l6, c6⟩ := rd7 r (i := 6) (by decide)
  obtain ⟨id, prio, body, state, tries, who, til⟩ := j
  dsimp only at hid hprio hbody hstate htries hwho htil hfree
  have d0 : X4 (H.f b0) (o0 + 1) = some (.int .u64 state) := Z8 (i := 1) c0 (by decide)
  have d1 : X4 (H.f b1) (o1 + 1) = some (.int .u64 (UU ⟨id, prio, body, state, tries, who, til⟩)) := Z8 (i := 1) c1 (by decide)
  have d2 : X4 (H.f b2) (o2 + 1) = some (.int .u64 id) := Z8 (i := 1) c2 (by decide)
  have d3 : X4 (H.f b3) (o3 + 1) = some (.int .u64 prio) := Z8 (i := 1) c3 (by decide)
  have d4 : X4 (H.f b4) (o4 + 3) = some (.string body) := Z8 (i := 3) c4 (by decide)
  have d5 : X4 (H.f b5) (o5 + 1) = some (.int .u64 tries) := Z8 (i := 1) c5 (by decide)
  have d6 : X4 (H.f b6) (o6 + 1) = some (.int .u64 who) := Z8 (i := 1) c6 (by decide)
  have i0 : ixS 5 v (.int .i64 0) = some (.pointer (some ⟨b0, o0, none⟩)) := i0
  have i1 : ixS 5 v (.int .i64 1) = some (.pointer (some ⟨b1, o1, none⟩)) := i1
  have i2 : ixS 5 v (.int .i64 2) = some (.pointer (some ⟨b2, o2, none⟩)) := i2
  have i3 : ixS 5 v (.int .i64 3) = some (.pointer (some ⟨b3, o3, none⟩)) := i3
  have i4 : ixS 5 v (.int .i64 4) = some (.pointer (some ⟨b4, o4, none⟩)) := i4
  have i5 : ixS 5 v (.int .i64 5) = some (.pointer (some ⟨b5, o5, none⟩)) := i5
  have i6 : ixS 5 v (.int .i64 6) = some (.pointer (some ⟨b6, o6, none⟩)) := i6
  have w0 : IntKind.wrap .i64 state = state := XE ⟨by omega, by omega⟩
  have w2 : IntKind.wrap .i64 id = id := XE ⟨by omega, by omega⟩
  have w3 : IntKind.wrap .i64 prio = prio := XE ⟨by omega, by omega⟩
  have w5 : IntKind.wrap .i64 tries = tries := XE ⟨by omega, by omega⟩
  have w6 : IntKind.wrap .i64 who = who := XE ⟨by omega, by omega⟩
  obtain ⟨Z, hZ⟩ : ∃ Z, Blk.cells [.int .i64 0, .int .i64 0, .string (mk []), .int .i64 0, .int .i64 0, .int .i64 0, .int .i64 0] T.api_Job true = Z := ⟨_, rfl⟩
  obtain ⟨H1, hH1⟩ : ∃ H1, H.push (.cells [.int .i64 0, .int .i64 0, .string (mk []), .int .i64 0, .int .i64 0, .int .i64 0, .int .i64 0] T.api_Job true) = H1 := ⟨_, rfl⟩
  have s1 : Yq H H1 := by rw [← hH1]; exact (Fr.refl H).push _
  have n1 : H1.n = H.n + 1 := by rw [← hH1]; rfl
  have z1 : H1.f H.n = .cells [.int .i64 0, .int .i64 0, .string (mk []), .int .i64 0, .int .i64 0, .int .i64 0, .int .i64 0] T.api_Job true := by rw [← hH1]; exact Yu rfl
  obtain ⟨H2, hH2⟩ : ∃ H2, H1.push (.cells [.int .i64 0, .int .i64 0, .string (mk []), .int .i64 0, .int .i64 0, .int .i64 0, .int .i64 0] T.api_Job true) = H2 := ⟨_, rfl⟩
  have s2 : Yq H1 H2 := by rw [← hH2]; exact (Fr.refl H1).push _
  have n2 : H2.n = H1.n + 1 := by rw [← hH2]; rfl
  have z2 : H2.f H1.n = .cells [.int .i64 0, .int .i64 0, .string (mk []), .int .i64 0, .int .i64 0, .int .i64 0, .int .i64 0] T.api_Job true := by rw [← hH2]; exact Yu rfl
  obtain ⟨H3, hH3⟩ : ∃ H3, H2.set H1.n (.cells [.int .i64 id, .int .i64 prio, .string body, .int .i64 state, .int .i64 tries, .int .i64 who, .int .i64 0] T.api_Job true) = H3 := ⟨_, rfl⟩
  have s3 : Fr (fun b => b = H1.n) H2 H3 := by rw [← hH3]; exact Fr.set (Fr.refl H2) _ _ fun _ => rfl
  have z3 : H3.f H1.n = .cells [.int .i64 id, .int .i64 prio, .string body, .int .i64 state, .int .i64 tries, .int .i64 who, .int .i64 0] T.api_Job true := by rw [← hH3]; exact YC
  have z3' : H3.f H.n = .cells [.int .i64 0, .int .i64 0, .string (mk []), .int .i64 0, .int .i64 0, .int .i64 0, .int .i64 0] T.api_Job true := by rw [s3.f (by omega) (by omega), s2.f (by omega) fun h => h, z1]
  have f3 : ∀ b, b < H.n → H3.f b = H.f b := fun b hb => by rw [s3.f (by omega) (by omega), (s1.trans s2).f hb fun h => h]
  have g : ∀ b, b < H.n → H1.f b = H.f b := fun b hb => s1.f hb fun h => h
  show CC F.jobs_job [v] H = some (.agg #[.int .i64 id, .int .i64 prio, .string body, .int .i64 state, .int .i64 tries, .int .i64 who, .int .i64 til], H)
  have st3 : Yq H H3 := (s1.trans s2).then s3 fun b hb h => by omega
  by_cases c : state = 2
  · have o1' : UU ⟨id, prio, body, state, tries, who, til⟩ = til := by unfold UU; rw [if_neg (by dsimp only; omega), if_pos c]
    rw [o1'] at d1
    have w1 : IntKind.wrap .i64 til = til := XE ⟨by omega, by omega⟩
    obtain ⟨H4, hH4⟩ : ∃ H4, H3.set H1.n (.cells [.int .i64 id, .int .i64 prio, .string body, .int .i64 state, .int .i64 tries, .int .i64 who, .int .i64 til] T.api_Job true) = H4 := ⟨_, rfl⟩
    have s4 : Fr (fun b => b = H1.n) H3 H4 := by rw [← hH4]; exact Fr.set (Fr.refl H3) _ _ fun _ => rfl
    have z4 : H4.f H1.n = .cells [.int .i64 id, .int .i64 prio, .string body, .int .i64 state, .int .i64 tries, .int .i64 who, .int .i64 til] T.api_Job true := by rw [← hH4]; exact YC
    have z4' : H4.f H.n = .cells [.int .i64 0, .int .i64 0, .string (mk []), .int .i64 0, .int .i64 0, .int .i64 0, .int .i64 0] T.api_Job true := by rw [s4.f (by have := s3.n; omega) (by omega), z3']
    obtain ⟨H5, hH5⟩ : ∃ H5, H4.set H.n (.cells [.int .i64 id, .int .i64 prio, .string body, .int .i64 state, .int .i64 tries, .int .i64 who, .int .i64 til] T.api_Job true) = H5 := ⟨_, rfl⟩
    have s5 : Fr (fun b => b = H.n) H4 H5 := by rw [← hH5]; exact Fr.set (Fr.refl H4) _ _ fun _ => rfl
    have z5 : H5.f H.n = .cells [.int .i64 id, .int .i64 prio, .string body, .int .i64 state, .int .i64 tries, .int .i64 who, .int .i64 til] T.api_Job true := by rw [← hH5]; exact YC
    refine Yj (H' := H5) ?_ (d_jobs_job _ H) rfl ((st3.then s4 fun b hb h => by omega).then s5 fun b hb h => by omega)
    subst c
    simp (disch := first | with_reducible rfl | assumption | omega | rfl | (simp only [go_sem]; first | done | omega)) only [go_sem, ↓reduceIte, reduceCtorEq, Nat.reduceEqDiff, Nat.reduceAdd, Nat.reduceSub, Nat.reduceMul, Nat.reduceDiv, Nat.reduceMod, Nat.reduceLeDiff, Nat.reduceLT, Nat.reduceBEq, Int.reduceEq, Int.reduceBEq, Int.reduceBNe, Int.reduceLT, Int.reduceLE, Int.reduceAdd, Int.reduceSub, Int.reduceNeg, Int.reduceToNat, Int.reducePow, Nat.reducePow, Int.reduceMul, Int.reduceDiv, ↓U9, hH1, i0, i1, i2, i3, i4, i5, i6, g b0 l0, g b1 l1, g b2 l2, g b3 l3, g b4 l4, g b5 l5, g b6 l6, d0, d1, d2, d3, d4, d5, d6, w0, w1, w2, w3, w5, w6, hH2, z2, hH3, z3, f3 b1 l1, hH4, z4, z4', hH5, z5, XD]
  · have ht : til = 0 := hfree c
    subst ht
    obtain ⟨H5, hH5⟩ : ∃ H5, H3.set H.n (.cells [.int .i64 id, .int .i64 prio, .string body, .int .i64 state, .int .i64 tries, .int .i64 who, .int .i64 0] T.api_Job true) = H5 := ⟨_, rfl⟩
    have s5 : Fr (fun b => b = H.n) H3 H5 := by rw [← hH5]; exact Fr.set (Fr.refl H3) _ _ fun _ => rfl
    have z5 : H5.f H.n = .cells [.int .i64 id, .int .i64 prio, .string body, .int .i64 state, .int .i64 tries, .int .i64 who, .int .i64 0] T.api_Job true := by rw [← hH5]; exact YC
    refine Yj (H' := H5) ?_ (d_jobs_job _ H) rfl (st3.then s5 fun b hb h => by omega)
    simp (disch := first | with_reducible rfl | assumption | omega | rfl | (simp only [go_sem]; first | done | omega)) only [go_sem, ↓reduceIte, reduceCtorEq, Nat.reduceEqDiff, Nat.reduceAdd, Nat.reduceSub, Nat.reduceMul, Nat.reduceDiv, Nat.reduceMod, Nat.reduceLeDiff, Nat.reduceLT, Nat.reduceBEq, Int.reduceEq, Int.reduceBEq, Int.reduceBNe, Int.reduceLT, Int.reduceLE, Int.reduceAdd, Int.reduceSub, Int.reduceNeg, Int.reduceToNat, Int.reducePow, Nat.reducePow, Int.reduceMul, Int.reduceDiv, ↓U9, hH1, i0, i1, i2, i3, i4, i5, i6, g b0 l0, g b1 l1, g b2 l2, g b3 l3, g b4 l4, g b5 l5, g b6 l6, d0, d1, d2, d3, d4, d5, d6, w0, w2, w3, w5, w6, hH2, z2, hH3, z3, z3', c, hH5, z5, XD]
end Go.Proofs.YtmiinbhnfojnbaaDoor

set_option maxRecDepth 10000
namespace Go.Proofs.YtmiinbhnfojnbaaDoor
open Go Eng
attribute [local congr] YX YZ YR
@[go_sem] theorem qp_none {ox oy : Operand} : Yf Tryd.prog .eql T.p_jobs_Queue ox oy (.pointer none) (.pointer none) = some (.bool true) := by kernel_rfl
@[go_sem] theorem qp_some {ox oy : Operand} {a : Addr} : Yf Tryd.prog .eql T.p_jobs_Queue ox oy (.pointer (some a)) (.pointer none) = some (.bool false) := by kernel_rfl
theorem q_none0 (H : AHeap) : CC F.jobs_Queue_none [.pointer none] H = some (.bool true, H) := by
  apply Yj _ (UL _ H) rfl
  rotate_left 2
  · simp (disch := first | with_reducible rfl | assumption | omega | rfl | (simp only [go_sem]; first | done | omega)) only [go_sem, ↓reduceIte, reduceCtorEq, Nat.reduceEqDiff, Nat.reduceAdd, Nat.reduceSub, Nat.reduceMul, Nat.reduceDiv, Nat.reduceMod, Nat.reduceLeDiff, Nat.reduceLT, Nat.reduceBEq, Int.reduceEq, Int.reduceBEq, Int.reduceBNe, Int.reduceLT, Int.reduceLE, Int.reduceAdd, Int.reduceSub, Int.reduceNeg, Int.reduceToNat, Int.reducePow, Nat.reducePow, Int.reduceMul, Int.reduceDiv, ↓XM]
    rfl
  · (repeat (first | exact Fr.refl _ | refine Fr.push ?_ _ | refine Fr.set ?_ _ _ (by intro h; first | omega | (simp only [go_sem] at h; omega))))
theorem q_none (bq : Nat) (dv : Option Addr) (r : List Value) (H : AHeap) (hf : H.f bq = .cells (.pointer dv :: r) T.jobs_Queue true) : CC F.jobs_Queue_none [.pointer (some ⟨bq, 0, none⟩)] H = some (.bool dv.isNone, H) := by
  cases dv with
  | none =>
    apply Yj _ (UL _ H) rfl
    rotate_left 2
    · simp (disch := first | with_reducible rfl | assumption | omega | rfl | (simp only [go_sem]; first | done | omega)) only [go_sem, ↓reduceIte, reduceCtorEq, Nat.reduceEqDiff, Nat.reduceAdd, Nat.reduceSub, Nat.reduceMul, Nat.reduceDiv, Nat.reduceMod, Nat.reduceLeDiff, Nat.reduceLT, Nat.reduceBEq, Int.reduceEq, Int.reduceBEq, Int.reduceBNe, Int.reduceLT, Int.reduceLE, Int.reduceAdd, Int.reduceSub, Int.reduceNeg, Int.reduceToNat, Int.reducePow, Nat.reducePow, Int.reduceMul, Int.reduceDiv, ↓XM, hf]
      rfl
    · (repeat (first | exact Fr.refl _ | refine Fr.push ?_ _ | refine Fr.set ?_ _ _ (by intro h; first | omega | (simp only [go_sem] at h; omega))))
  | some a =>
    apply Yj _ (UL _ H) rfl
    rotate_left 2
    · simp (disch := first | with_reducible rfl | assumption | omega | rfl | (simp only [go_sem]; first | done | omega)) only [go_sem, ↓reduceIte, reduceCtorEq, Nat.reduceEqDiff, Nat.reduceAdd, Nat.reduceSub, Nat.reduceMul, Nat.reduceDiv, Nat.reduceMod, Nat.reduceLeDiff, Nat.reduceLT, Nat.reduceBEq, Int.reduceEq, Int.reduceBEq, Int.reduceBNe, Int.reduceLT, Int.reduceLE, Int.reduceAdd, Int.reduceSub, Int.reduceNeg, Int.reduceToNat, Int.reducePow, Nat.reducePow, Int.reduceMul, Int.reduceDiv, ↓XM, hf]
      rfl
    · (repeat (first | exact Fr.refl _ | refine Fr.push ?_ _ | refine Fr.set ?_ _ _ (by intro h; first | omega | (simp only [go_sem] at h; omega))))
def NQ (H : AHeap) (p : Value) : Prop := p = .pointer none ∨ ∃ b r, p = .pointer (some ⟨b, 0, none⟩) ∧ b < H.n ∧ H.f b = .cells (.pointer none :: r) T.jobs_Queue true
theorem NQ.none {H : AHeap} {p : Value} (h : NQ H p) : CC F.jobs_Queue_none [p] H = some (.bool true, H) := by
  rcases h with rfl | ⟨b, r, rfl, _, hf⟩
  · exact q_none0 H
  · exact q_none b Option.none r H hf
theorem NQ.still {H H' : AHeap} {p : Value} (h : NQ H p) (s : Yq H H') : NQ H' p := by
  rcases h with rfl | ⟨b, r, rfl, hb, hf⟩
  · exact .inl rfl
  · exact .inr ⟨b, r, rfl, Nat.lt_of_lt_of_le hb s.n, by rw [s.f hb fun h => h]; exact hf⟩
theorem Uv : MapT Tryd.prog (kInt .i64) T.map_int_string (.string (mk [])) := ⟨⟨_, _, Tryd.underlying51, by kernel_rfl, by kernel_rfl⟩⟩
def Keys (H : AHeap) (bk : Nat) (A : List Jb) : Prop := ∃ ents es, H.f bk = .map ents ∧ Ent (fun v a => v = .string a) (kInt .i64).kv ents es ∧ ∀ id, lkp es id = (fnd A id).map X0
def Ul (bm bk : Nat) (tries last now : Int) : Blk := .cells [.pointer (some ⟨bm, 0, none⟩), .map (some bk), .int .i64 tries, .int .i64 last, .int .i64 now] T.jobs_Queue true
structure QR (H : AHeap) (bq bm bk : Nat) (A : List Jb) (tries last now : Int) : Prop where
  f : H.f bq = Ul bm bk tries last now
  lt : bq < H.n
  klt : bk < H.n
  mdl : Mdl H bm (Q8 A)
  keys : Keys H bk A
  nq : ¬ MB H bm bq
  nk : ¬ MB H bm bk
  qk : bq ≠ bk
def QB (H : AHeap) (bq bm bk : Nat) : Nat → Prop := fun c => c = bq ∨ c = bk ∨ MB H bm c
structure UpQ (H : AHeap) (bq bm bk : Nat) (H' : AHeap) : Prop where
  fr : Fr (QB H bq bm bk) H H'
  mb : ∀ c, MB H' bm c → MB H bm c ∨ H.n ≤ c
section
variable {H H' H1 H2 : AHeap} {bq bm bk : Nat} {A A' : List Jb} {tries last now : Int}
theorem UpQ.refl (H : AHeap) (bq bm bk : Nat) : UpQ H bq bm bk H := ⟨Fr.refl H, fun _ h => .inl h⟩
theorem UpQ.trans (u : UpQ H bq bm bk H1) (v : UpQ H1 bq bm bk H2) : UpQ H bq bm bk H2 :=
  ⟨u.fr.then v.fr fun b hb h => by
    rcases h with h | h | h
    · exact .inl h
    · exact .inr (.inl h)
    · rcases u.mb b h with h | h
      · exact .inr (.inr h)
      · omega, fun c hc => by
    rcases v.mb c hc with h | h
    · exact u.mb c h
    · exact .inr (Nat.le_trans u.fr.n h)⟩
theorem Keys.keep {S : Nat → Prop} (k : Keys H bk A) (h : Fr S H H') (hk : bk < H.n) (hS : ¬ S bk) : Keys H' bk A := by
  obtain ⟨ents, es, h1, h2, h3⟩ := k
  exact ⟨ents, es, by rw [h.f hk hS]; exact h1, h2, h3⟩
theorem Z6 {S : Nat → Prop} {M : List Pr} (r : Mdl H bm M) (h : Fr S H H') (hS : ∀ c, MB H bm c → ¬ S c) : Mdl H' bm M ∧ ∀ c, MB H' bm c → MB H bm c := by
  have hf : H'.f bm = H.f bm := h.f (r.blk (.inl rfl)) (hS bm (.inl rfl))
  exact ⟨r.keep h (hS bm (.inl rfl)) fun v hv c hc hs => hS c (.inr ⟨v, hv, hc⟩) hs, fun c hc => hc.imp id fun ⟨v, hv, hb⟩ => ⟨v, by rw [← hf]; exact hv, hb⟩⟩
theorem QR.keep {S : Nat → Prop} (r : QR H bq bm bk A tries last now) (h : Fr S H H') (hS : ∀ c, QB H bq bm bk c → ¬ S c) : QR H' bq bm bk A tries last now := by
  have hm := Z6 r.mdl h fun c hc => hS c (.inr (.inr hc))
  exact ⟨by rw [h.f r.lt (hS _ (.inl rfl))]; exact r.f, Nat.lt_of_lt_of_le r.lt h.n, Nat.lt_of_lt_of_le r.klt h.n, hm.1, r.keys.keep h r.klt (hS _ (.inr (.inl rfl))), fun h => r.nq (hm.2 _ h), fun h => r.nk (hm.2 _ h), r.qk⟩
theorem QR.still (r : QR H bq bm bk A tries last now) (h : Yq H H') : QR H' bq bm bk A tries last now := r.keep h fun _ _ h => h
theorem QR.blk (r : QR H bq bm bk A tries last now) {c : Nat} (h : QB H bq bm bk c) : c < H.n := by
  rcases h with rfl | rfl | h
  · exact r.lt
  · exact r.klt
  · exact r.mdl.blk h
theorem QB.still {H H1 : AHeap} {bq bm bk : Nat} {M : List Pr} (r : Mdl H bm M) (s : Yq H H1) {c : Nat} (h : QB H1 bq bm bk c) : QB H bq bm bk c := h.imp id fun h => h.imp id fun h => ZT r s h
theorem UpQ.pre (r : QR H bq bm bk A tries last now) (s : Yq H H1) (u : UpQ H1 bq bm bk H2) : UpQ H bq bm bk H2 :=
  ⟨s.still.then u.fr fun b hb h => h.still r.mdl s, fun c hc => (u.mb c hc).imp (ZT r.mdl s) fun h => Nat.le_trans s.n h⟩
theorem UpQ.of_still (r : QR H bq bm bk A tries last now) (s : Yq H H') : UpQ H bq bm bk H' := ⟨s.still, fun c hc => .inl (ZT r.mdl s hc)⟩
theorem UpQ.post {S : Nat → Prop} (u : UpQ H bq bm bk H1) (r : QR H1 bq bm bk A tries last now) (f : Fr S H1 H2) (hS : ∀ b, S b → H.n ≤ b ∧ ¬ QB H1 bq bm bk b) : UpQ H bq bm bk H2 ∧ QR H2 bq bm bk A tries last now := by
  have hm := Z6 r.mdl f fun c hc h => (hS c h).2 (.inr (.inr hc))
  exact ⟨⟨u.fr.then f fun b hb h => by have := (hS b h).1; omega, fun c hc => u.mb c (hm.2 c hc)⟩, r.keep f fun c hc h => (hS c h).2 hc⟩
theorem QR.tidy {v : Value} {tries' last' now' : Int} (ok : Ok H) (r : QR H bq bm bk A tries last now) (r' : QR H' bq bm bk A' tries' last' now') (u : UpQ H bq bm bk H') :
    ∃ H2, Eng.tidy H (v, H') = (v, H2) ∧ QR H2 bq bm bk A' tries' last' now' ∧ UpQ H bq bm bk H2 := by
  unfold Eng.tidy
  split
  · rename_i hg
    simp only [Bool.and_eq_true] at hg
    have hsame : ∀ b, b < H.n → H'.f b = H.f b := fun b hb => by
      rcases u.fr.old b hb with h | ⟨h, _⟩
      · exact h.2
      · have h1 := List.all_eq_true.1 hg.2 b (by simpa using hb)
        have h2 := ok b
        have h3 : H'.ver b = H.ver b := by simpa using h1
        omega
    obtain ⟨v0, k1, k2, k3, k4⟩ := r.mdl
    obtain ⟨v1, h1, h2, h3, h4⟩ := r'.mdl
    have h1' := h1
    rw [hsame bm k2, k1] at h1
    cases h1
    have hm : Mdl H bm (Q8 A') := by
      refine ⟨v0, k1, k2, ?_, k4⟩
      rcases h3 with h | ⟨hl, x, hv, hs, hb⟩ | ⟨bb, o, c, xs, hv, hlc, hb, hff, ho, hx⟩
      · exact .inl h
      · exact .inr (.inl ⟨hl, x, hv, hs, k3.blk (by rw [hv]; rfl)⟩)
      · have hbb : bb < H.n := k3.blk (by rw [hv]; rfl)
        exact .inr (.inr ⟨bb, o, c, xs, hv, hlc, hbb, by rw [← hsame bb hbb]; exact hff, ho, hx⟩)
    obtain ⟨ents, es, e1, e2, e3⟩ := r'.keys
    exact ⟨H, rfl, ⟨by rw [← hsame bq r.lt]; exact r'.f, r.lt, r.klt, hm, ⟨ents, es, by rw [← hsame bk r.klt]; exact e1, e2, e3⟩, r.nq, r.nk, r.qk⟩, UpQ.refl _ _ _ _⟩
  · exact ⟨H', rfl, r', u⟩
end
theorem r_tab {j : Jb} (h : JOk j) {kv rv v : Value} {H : AHeap} (ok : Ok H) (hk : KR H kv kK) (hr : KR H rv kR) (hv : CR H v (row7 j)) :
    CC F.rows_Row [tbV 1 kv rv, v] H = some (.tuple #[.string (X0 j), .string (valJ j), .int .i64 0], H) := by
  have := q_Row' 1 kv rv kK kR (row7 j) v H ok hk hr hv (by show 7 ≤ 100; omega) (row7_ok h)
  rw [row7_R h] at this
  exact this
set_option maxHeartbeats 2000000 in
theorem q_qset {n m : Int} (bq bm bk : Nat) (A : List Jb) (tries last now : Int) (j : Jb) (H : AHeap) (ok : Ok H) (r : QR H bq bm bk A tries last now) (ha : AOk A n) (hl : A.length < 20000) (hj : JOk j) (ha' : AOk (setJ A j) m) :
    ∃ H', CC F.jobs_Queue_set [.pointer (some ⟨bq, 0, none⟩), .agg ⟨j.l⟩] H = some (.int .i64 0, H') ∧ QR H' bq bm bk (setJ A j) tries last now ∧ UpQ H bq bm bk H' := by
  obtain ⟨H1, hH1⟩ : ∃ H1, H.push (.cells [.int .i64 j.id, .int .i64 j.prio, .string j.body, .int .i64 j.state, .int .i64 j.tries, .int .i64 j.who, .int .i64 j.til] T.api_Job true) = H1 := ⟨_, rfl⟩
  have s1 : Yq H H1 := by rw [← hH1]; exact (Fr.refl H).push _
  have n1 : H1.n = H.n + 1 := by rw [← hH1]; rfl
  have f1 : H1.f H.n = .cells [.int .i64 j.id, .int .i64 j.prio, .string j.body, .int .i64 j.state, .int .i64 j.tries, .int .i64 j.who, .int .i64 j.til] T.api_Job true := by rw [← hH1]; exact Yu rfl
  obtain ⟨kv, rv, H2, m2, s2, k2, k2', _, _⟩ := q_table H1
  have f2 : H2.f H.n = .cells [.int .i64 j.id, .int .i64 j.prio, .string j.body, .int .i64 j.state, .int .i64 j.tries, .int .i64 j.who, .int .i64 j.til] T.api_Job true := by rw [s2.f (by omega) fun h => h]; exact f1
  obtain ⟨v3, H3, m3, s3, k3⟩ := q_row j hj H2
  have m3 : CC F.jobs_row [.agg #[.int .i64 j.id, .int .i64 j.prio, .string j.body, .int .i64 j.state, .int .i64 j.tries, .int .i64 j.who, .int .i64 j.til]] H2 = some (v3, H3) := m3
  have s13 := (s1.trans s2).trans s3
  have ok3 : Ok H3 := ok.fr s13
  have m4 := r_tab hj ok3 (k2.still s3) (k2'.still s3) k3
  have f3 : H3.f H.n = .cells [.int .i64 j.id, .int .i64 j.prio, .string j.body, .int .i64 j.state, .int .i64 j.tries, .int .i64 j.who, .int .i64 j.til] T.api_Job true := by rw [s3.f (by have := s2.n; omega) fun h => h]; exact f2
  have r3 := r.still s13
  have ck : okV (some true) (some H.n) H1 H2 H2 H2 = true := ZR (.inr (s2.ver (by omega) fun h => h)) (.inl s2.n)
  obtain ⟨ents, es, e1, e2, e3⟩ := r3.keys
  have fq := r3.f
  unfold Ul at fq
  have hml : (Q8 A).length ≤ 20000 := by rw [Q2]; omega
  have nq3 : bq < H3.n := r3.lt
  obtain ⟨M, H4, hM, hm, hsl, h4, u4, md4, hdel, hput⟩ : ∃ M H4, Srt M ∧ (∀ p, p ∈ M ↔ ∃ a ∈ A, a.id ≠ j.id ∧ prJ a = p) ∧ M.length < 20000 ∧ Ok H4 ∧ Up H3 bm H4 ∧ Mdl H4 bm M ∧
      (fnd A j.id = none → H4 = H3) ∧ (∀ o, fnd A j.id = some o → CC F.model_Model_Delete [.pointer (some ⟨bm, 0, none⟩), .string (X0 o)] H3 = some (.tuple #[.string (valJ o), .int .i64 0], H4)) := by
    rcases Zt (A := A) j.id with h | ⟨o, h⟩
    · refine ⟨Q8 A, H3, ha.srt, fun p => ?_, by rw [Q2]; exact hl, ok3, Up.refl _ _, r3.mdl, fun _ => rfl, fun o h' => (by rw [h] at h'; cases h')⟩
      rw [QU]
      exact ⟨fun ⟨a, h1, h2⟩ => ⟨a, h1, fnd_none h a h1, h2⟩, fun ⟨a, h1, _, h2⟩ => ⟨a, h1, h2⟩⟩
    · obtain ⟨ho, hid⟩ := XG h
      obtain ⟨H4, g1, g2, g3⟩ := q_delM bm (Q8 A) (X0 o) H3 ok3 r3.mdl ha.srt hml
      rw [getJ ha ho] at g1
      rw [map_del ha ho] at g2
      refine ⟨Q8 (delJ A o.id), H4, (ha.del _).srt, fun p => ?_, ?_, ok3.fr g3.fr, g3, g2, fun h' => (by rw [h] at h'; cases h'), fun o' h' => (by rw [h] at h'; cases h'; exact g1)⟩
      · rw [QU, ← hid]
        exact ⟨fun ⟨a, h1, h2⟩ => ⟨a, (Wb.1 h1).1, (Wb.1 h1).2, h2⟩, fun ⟨a, h1, h3, h2⟩ => ⟨a, Wb.2 ⟨h1, h3⟩, h2⟩⟩
      · rw [Q2]; unfold delJ; have := List.length_filter_le (fun a => !decide (a.id = o.id)) A; omega
  obtain ⟨H5, g1, g2, g3⟩ := q_putM bm M (prJ j) H4 h4 md4 hM (by omega)
  rw [putE_zero (a := prJ j) (chkJ hj) hsl] at g1
  rw [map_set ha hj ha' hl hM hsl hm] at g2
  have g1 : CC F.model_Model_Put [.pointer (some ⟨bm, 0, none⟩), .string (X0 j), .string (valJ j)] H4 = some (.int .i64 0, H5) := g1
  have fq4 : H4.f bq = Ul bm bk tries last now := by rw [u4.fr.f nq3 r3.nq]; exact r3.f
  have nq4 : ¬ MB H4 bm bq := fun h => by rcases u4.mb _ h with h | h; exact r3.nq h; omega
  have nk4 : ¬ MB H4 bm bk := fun h => by rcases u4.mb _ h with h | h; exact r3.nk h; have := r3.klt; omega
  have fq5 : H5.f bq = Ul bm bk tries last now := by rw [g3.fr.f (Nat.lt_of_lt_of_le nq3 u4.fr.n) nq4]; exact fq4
  have n34 := u4.fr.n
  have n45 := g3.fr.n
  have fk5 : H5.f bk = .map ents := by rw [g3.fr.f (Nat.lt_of_lt_of_le r3.klt u4.fr.n) nk4, u4.fr.f r3.klt r3.nk]; exact e1
  have hMBn : ¬ MB H3 bm H.n := fun h => by have := r.mdl.blk (ZT r.mdl s13 h); omega
  have n3 : H.n + 1 ≤ H3.n := by have := s2.n; have := s3.n; omega
  have hMBn4 : ¬ MB H4 bm H.n := fun h => by rcases u4.mb _ h with h | h; exact hMBn h; omega
  have f5 : H5.f H.n = .cells [.int .i64 j.id, .int .i64 j.prio, .string j.body, .int .i64 j.state, .int .i64 j.tries, .int .i64 j.who, .int .i64 j.til] T.api_Job true := by
    rw [g3.fr.f (by omega) hMBn4, u4.fr.f (by omega) hMBn]; exact f3
  have um := upd_map Uv fk5 e2 j.id (.string (X0 j)) (H := H5)
  obtain ⟨H6, hH6⟩ : ∃ H6, H5.set bk (.map (mput ents ((kInt .i64).kv j.id) (.string (X0 j)))) = H6 := ⟨_, rfl⟩
  rw [hH6] at um
  have um : Y8 Tryd.prog T.map_int_string (.map (some bk)) (.int .i64 j.id) (.string (X0 j)) H5 = some H6 := um
  have s6 : Fr (fun b => b = bk) H5 H6 := by rw [← hH6]; exact Fr.set (Fr.refl H5) _ _ fun _ => rfl
  have nq5 : ¬ MB H5 bm bq := fun h => by rcases g3.mb _ h with h | h; exact nq4 h; omega
  have nk5 : ¬ MB H5 bm bk := fun h => by rcases g3.mb _ h with h | h; exact nk4 h; have := r3.klt; omega
  have hm6 := Z6 g2 s6 fun c hc h => nk5 (h ▸ hc)
  have rq : QR H6 bq bm bk (setJ A j) tries last now := by
    refine ⟨by rw [s6.f (by omega) r.qk]; exact fq5, Nat.lt_of_lt_of_le (by omega) s6.n, Nat.lt_of_lt_of_le (by have := r3.klt; omega) s6.n, hm6.1, ⟨_, Eng.putE es j.id (X0 j), by rw [← hH6]; exact YC, e2.put (R := fun v a => v = .string a) (k := j.id) (a := X0 j) rfl, fun id => ?_⟩, fun h => nq5 (hm6.2 _ h), fun h => nk5 (hm6.2 _ h), r.qk⟩
    rw [Zf, e3]
    by_cases hid : j.id = id
    · rw [if_pos hid, ← hid, Z7 ha'.inc ((ZG ha.inc).2 (.inl rfl))]; rfl
    · rw [if_neg hid]
      rcases Zt (A := A) id with h | ⟨o, h⟩
      · rw [h]
        rcases Zt (A := setJ A j) id with h' | ⟨o, h'⟩
        · rw [h']
        · obtain ⟨h1, h2⟩ := XG h'
          rcases (ZG ha.inc).1 h1 with h3 | h3
          · exact absurd (by rw [← h3]; exact h2) hid
          · exact absurd h2 (fnd_none h o h3.1)
      · obtain ⟨h1, h2⟩ := XG h
        have := Z7 ha'.inc ((ZG (j := j) ha.inc).2 (.inr ⟨h1, fun e => hid (by rw [← e, h2])⟩))
        rw [h2] at this
        rw [h, this]
  have uq : UpQ H bq bm bk H6 := by
    refine UpQ.pre r s13 ⟨((u4.fr.mono (S' := QB H3 bq bm bk) fun _ _ h => .inr (.inr h)).then g3.fr fun b hb h => ?_).then s6 fun b hb h => .inr (.inl h), fun c hc => ?_⟩
    · rcases u4.mb _ h with h | h
      · exact .inr (.inr h)
      · omega
    · rcases g3.mb _ (hm6.2 c hc) with h | h
      · exact u4.mb _ h
      · right; omega
  have hkn : bk < H.n := r.klt
  have hv6 : H.clk ≤ H6.ver bk := by
    rw [← hH6, set_v_eq]
    have := s13.clk; have := u4.fr.clk; have := g3.fr.clk
    omega
  refine ⟨H6, (d_jobs_Queue_set _ _ H (r := (.int .i64 0, H6)) ?_).trans (congrArg some (Uy hkn (ok bk) hv6)), rq, uq⟩
  unfold Ul at fq4 fq5
  rcases Zt (A := A) j.id with h | ⟨o, h⟩
  · have e4 := hdel h
    subst e4
    have hl := look_none Uv e1 e2 (k := j.id) (by rw [e3, h]; rfl) true
    have hl : Xb Tryd.prog T.map_int_string (.map (some bk)) (.int .i64 j.id) true H4 = some (.tuple #[.string (mk []), .bool false]) := hl
    show XI _ _ _ _ _ _ (.agg #[.int .i64 j.id, .int .i64 j.prio, .string j.body, .int .i64 j.state, .int .i64 j.tries, .int .i64 j.who, .int .i64 j.til]) _ _ = _
    simp (disch := first | with_reducible rfl | assumption | omega | rfl | (simp only [go_sem]; first | done | omega)) only [go_sem, ↓reduceIte, reduceCtorEq, Nat.reduceEqDiff, Nat.reduceAdd, Nat.reduceSub, Nat.reduceMul, Nat.reduceDiv, Nat.reduceMod, Nat.reduceLeDiff, Nat.reduceLT, Nat.reduceBEq, Int.reduceEq, Int.reduceBEq, Int.reduceBNe, Int.reduceLT, Int.reduceLE, Int.reduceAdd, Int.reduceSub, Int.reduceNeg, Int.reduceToNat, Int.reducePow, Nat.reducePow, Int.reduceMul, Int.reduceDiv, ↓XI, hH1, ↓Ya m2, Ya m2, f2, ↓Ya m3, Ya m3, ↓Ya m4, Ya m4, ck, fq, f3, hl, ↓Ya g1, Ya g1, fq5, f5, um]
  · obtain ⟨v, hl, hv⟩ := ZM Uv e1 e2 (k := j.id) (a := X0 o) (by rw [e3, h]; rfl) true
    subst hv
    have hl : Xb Tryd.prog T.map_int_string (.map (some bk)) (.int .i64 j.id) true H3 = some (.tuple #[.string (X0 o), .bool true]) := hl
    have hd := hput o h
    show XI _ _ _ _ _ _ (.agg #[.int .i64 j.id, .int .i64 j.prio, .string j.body, .int .i64 j.state, .int .i64 j.tries, .int .i64 j.who, .int .i64 j.til]) _ _ = _
    simp (disch := first | with_reducible rfl | assumption | omega | rfl | (simp only [go_sem]; first | done | omega)) only [go_sem, ↓reduceIte, reduceCtorEq, Nat.reduceEqDiff, Nat.reduceAdd, Nat.reduceSub, Nat.reduceMul, Nat.reduceDiv, Nat.reduceMod, Nat.reduceLeDiff, Nat.reduceLT, Nat.reduceBEq, Int.reduceEq, Int.reduceBEq, Int.reduceBNe, Int.reduceLT, Int.reduceLE, Int.reduceAdd, Int.reduceSub, Int.reduceNeg, Int.reduceToNat, Int.reducePow, Nat.reducePow, Int.reduceMul, Int.reduceDiv, ↓XI, hH1, ↓Ya m2, Ya m2, f2, ↓Ya m3, Ya m3, ↓Ya m4, Ya m4, ck, fq, f3, hl, ↓Ya hd, Ya hd, fq4, ↓Ya g1, Ya g1, fq5, f5, um]
end Go.Proofs.YtmiinbhnfojnbaaDoor

set_option maxRecDepth 10000
namespace Go.Proofs.YtmiinbhnfojnbaaDoor
open Go Eng
attribute [local congr] YX YZ YR
theorem YL {H H1 : AHeap} {k : Blk} (h : H.push k = H1) : Yq H H1 ∧ H1.n = H.n + 1 ∧ H1.f H.n = k := by
  subst h
  exact ⟨(Fr.refl H).push _, rfl, Yu rfl⟩
theorem YG {H H1 : AHeap} {b : Nat} {k : Blk} (h : H.set b k = H1) : Fr (fun c => c = b) H H1 ∧ H1.n = H.n ∧ H1.f b = k ∧ H1.ver b = H.clk := by
  subst h
  exact ⟨Fr.set (Fr.refl H) _ _ fun _ => rfl, rfl, YC, set_v_eq⟩
theorem sinceE_tidied {α : Type} {E : Enc α} {e : TypeId} {H H' : AHeap} {v : Value} {l : List α} (r : SinceE E e H H' v l) {x : Res} (hx : x = some (tidy H (v, H'))) :
    ∃ H'', x = some (v, H'') ∧ SinceE E e H H'' v l := by
  unfold tidy at hx
  split at hx
  · rename_i hg
    simp only [Bool.and_eq_true] at hg
    refine ⟨H, hx, Fr.refl _, ?_, r.new⟩
    rcases r.own with h | ⟨_, a, h, _⟩ | ⟨b, o, c, xs, h, _⟩
    · exact .inl h
    · rw [h] at hg; exact absurd hg.1 (by simp [gr])
    · rw [h] at hg; exact absurd hg.1 (by simp [gr])
  · exact ⟨H', hx, r⟩
structure QI (A : List Jb) (tries last now : Int) : Prop where
  a : AOk A last
  t : 1 ≤ tries ∧ tries ≤ 100
  l : 0 ≤ last ∧ last ≤ 900
  n : 0 ≤ now ∧ now ≤ 1099511627776
  w : ∀ a ∈ A, a.state = 1 → a.tries < tries
theorem inc_len : ∀ {A : List Jb} {k n : Int}, A.Pairwise (fun a b => a.id < b.id) → (∀ a ∈ A, k < a.id ∧ a.id ≤ n) → k ≤ n → (A.length : Int) ≤ n - k
  | [], k, n, _, _, h => by simp; omega
  | x :: A, k, n, hp, hb, h => by
    obtain ⟨hx, hp'⟩ := List.pairwise_cons.1 hp
    have h1 := hb x (by simp)
    have ih := inc_len (k := x.id) (n := n) hp' (fun a ha => ⟨hx a ha, (hb a (by simp [ha])).2⟩) h1.2
    simp only [List.length_cons]
    omega
theorem QI.len {A : List Jb} {tries last now : Int} (i : QI A tries last now) : A.length ≤ 900 := by
  have := inc_len (k := 0) i.a.inc (fun a ha => ⟨by have := (i.a.ok a ha).id; omega, i.a.le a ha⟩) i.l.1
  have := i.l.2
  omega
section
variable {H H' H1 H2 : AHeap} {bq bm bk : Nat} {A A' : List Jb} {tries last now : Int}
theorem QR.setq (r : QR H bq bm bk A tries last now) {last' now' : Int} (h : H.set bq (.cells [.pointer (some ⟨bm, 0, none⟩), .map (some bk), .int .i64 tries, .int .i64 last', .int .i64 now'] T.jobs_Queue true) = H1) :
    QR H1 bq bm bk A tries last' now' ∧ UpQ H bq bm bk H1 := by
  obtain ⟨s, n, f, _⟩ := YG h
  have hm := Z6 r.mdl s fun c hc h => r.nq (h ▸ hc)
  exact ⟨⟨f, by rw [n]; exact r.lt, by rw [n]; exact r.klt, hm.1, r.keys.keep s r.klt fun h => r.qk h.symm, fun h => r.nq (hm.2 _ h), fun h => r.nk (hm.2 _ h), r.qk⟩, s.mono fun _ _ h => .inl h, fun c hc => .inl (hm.2 c hc)⟩
theorem QR.q_none (r : QR H bq bm bk A tries last now) : CC F.jobs_Queue_none [.pointer (some ⟨bq, 0, none⟩)] H = some (.bool false, H) := Go.Proofs.YtmiinbhnfojnbaaDoor.q_none bq (some ⟨bm, 0, none⟩) _ H r.f
end
def newJ (id prio : Int) (body : ByteArray) : Jb := ⟨id, prio, body, 1, 0, 0, 0⟩
theorem newJ_ok {id prio : Int} {body : ByteArray} (h1 : 1 ≤ id ∧ id ≤ 1000) (h2 : 0 ≤ prio ∧ prio ≤ 9) (h3 : (bl body).length ≤ 15) : JOk (newJ id prio body) :=
  ⟨h1, h2, h3, by show (1 : Int) ≤ 1 ∧ (1 : Int) ≤ 3; omega, by show (0 : Int) ≤ 0 ∧ (0 : Int) ≤ 100; omega, by show (0 : Int) ≤ 0 ∧ (0 : Int) ≤ 1000; omega, by show (0 : Int) ≤ 0 ∧ (0 : Int) ≤ 1099511627776; omega, fun _ => rfl⟩
theorem setJ_new {A : List Jb} {j : Jb} (h : fnd A j.id = none) : setJ A j = A ++ [j] := by unfold setJ; rw [h]; rfl
theorem q_QPut (bq bm bk : Nat) (A : List Jb) (tries last now prio : Int) (body : ByteArray) (H : AHeap) (ok : Ok H) (r : QR H bq bm bk A tries last now) (i : QI A tries last now) (hl : last < 900) (hp : 0 ≤ prio ∧ prio ≤ 9) (hb : (bl body).length ≤ 15) :
    ∃ H', CC F.jobs_Queue_Put [.pointer (some ⟨bq, 0, none⟩), .int .i64 prio, .string body] H = some (.tuple #[.int .i64 (last + 1), .int .i64 0], H') ∧ QR H' bq bm bk (A ++ [newJ (last + 1) prio body]) tries (last + 1) now ∧ UpQ H bq bm bk H' := by
  have hll := i.l
  have hj : JOk (newJ (last + 1) prio body) := newJ_ok (by omega) hp hb
  have hn : fnd A (newJ (last + 1) prio body).id = none := fnd_none_last i.a (id := last + 1) (by omega)
  have hs := setJ_new hn
  have ha' : AOk (setJ A (newJ (last + 1) prio body)) (last + 1) := by rw [hs]; exact i.a.put hj rfl
  obtain ⟨H1, m1, r1, u1⟩ := q_qset bq bm bk A tries last now _ H ok r i.a (by have := i.len; omega) hj ha'
  rw [hs] at r1
  have m1 : CC F.jobs_Queue_set [.pointer (some ⟨bq, 0, none⟩), .agg #[.int .i64 (last + 1), .int .i64 prio, .string body, .int .i64 1, .int .i64 0, .int .i64 0, .int .i64 0]] H = some (.int .i64 0, H1) := m1
  have f0 := r.f
  have f1 := r1.f
  unfold Ul at f0 f1
  obtain ⟨H2, hH2⟩ : ∃ H2, H1.set bq (.cells [.pointer (some ⟨bm, 0, none⟩), .map (some bk), .int .i64 tries, .int .i64 (last + 1), .int .i64 now] T.jobs_Queue true) = H2 := ⟨_, rfl⟩
  obtain ⟨r2, u2⟩ := r1.setq hH2
  obtain ⟨_, _, f2, v2⟩ := YG hH2
  have h1 : ¬ prio < 0 := by omega
  have h2 : ¬ 9 < prio := by omega
  have h3 : ¬ (15 : Int) < ((bl body).length : Int) := by omega
  have m0 := r.q_none
  refine ⟨H2, (VY _ _ _ H (r := (.tuple #[.int .i64 (last + 1), .int .i64 0], H2)) ?_).trans (congrArg some (Uy r.lt (ok bq) (by rw [v2]; exact u1.fr.clk))), r2, u1.trans u2⟩
  simp (disch := first | with_reducible rfl | assumption | omega | rfl | (simp only [go_sem]; first | done | omega)) only [go_sem, ↓reduceIte, reduceCtorEq, Nat.reduceEqDiff, Nat.reduceAdd, Nat.reduceSub, Nat.reduceMul, Nat.reduceDiv, Nat.reduceMod, Nat.reduceLeDiff, Nat.reduceLT, Nat.reduceBEq, Int.reduceEq, Int.reduceBEq, Int.reduceBNe, Int.reduceLT, Int.reduceLE, Int.reduceAdd, Int.reduceSub, Int.reduceNeg, Int.reduceToNat, Int.reducePow, Nat.reducePow, Int.reduceMul, Int.reduceDiv, ↓XH, ↓Ya m0, Ya m0, h1, h2, h3, f0, ↓Ya m1, Ya m1, f1, hH2, f2]
def U3 (prio : Int) (body : ByteArray) : Int := if prio < 0 ∨ 9 < prio then 2 else if 15 < (bl body).length then 5 else 0
theorem q_QPut_bad (bq bm bk : Nat) (A : List Jb) (tries last now prio : Int) (body : ByteArray) (H : AHeap) (r : QR H bq bm bk A tries last now) (h : U3 prio body ≠ 0) :
    CC F.jobs_Queue_Put [.pointer (some ⟨bq, 0, none⟩), .int .i64 prio, .string body] H = some (.tuple #[.int .i64 0, .int .i64 (U3 prio body)], H) := by
  have m0 := r.q_none
  unfold U3 at h ⊢
  by_cases h1 : prio < 0
  · rw [if_pos (.inl h1)]
    apply Yj _ (VY _ _ _ H) rfl
    rotate_left 2
    · simp (disch := first | with_reducible rfl | assumption | omega | rfl | (simp only [go_sem]; first | done | omega)) only [go_sem, ↓reduceIte, reduceCtorEq, Nat.reduceEqDiff, Nat.reduceAdd, Nat.reduceSub, Nat.reduceMul, Nat.reduceDiv, Nat.reduceMod, Nat.reduceLeDiff, Nat.reduceLT, Nat.reduceBEq, Int.reduceEq, Int.reduceBEq, Int.reduceBNe, Int.reduceLT, Int.reduceLE, Int.reduceAdd, Int.reduceSub, Int.reduceNeg, Int.reduceToNat, Int.reducePow, Nat.reducePow, Int.reduceMul, Int.reduceDiv, ↓XH, ↓Ya m0, Ya m0, h1]
      rfl
    · (repeat (first | exact Fr.refl _ | refine Fr.push ?_ _ | refine Fr.set ?_ _ _ (by intro h; first | omega | (simp only [go_sem] at h; omega))))
  · by_cases h2 : 9 < prio
    · rw [if_pos (.inr h2)]
      apply Yj _ (VY _ _ _ H) rfl
      rotate_left 2
      · simp (disch := first | with_reducible rfl | assumption | omega | rfl | (simp only [go_sem]; first | done | omega)) only [go_sem, ↓reduceIte, reduceCtorEq, Nat.reduceEqDiff, Nat.reduceAdd, Nat.reduceSub, Nat.reduceMul, Nat.reduceDiv, Nat.reduceMod, Nat.reduceLeDiff, Nat.reduceLT, Nat.reduceBEq, Int.reduceEq, Int.reduceBEq, Int.reduceBNe, Int.reduceLT, Int.reduceLE, Int.reduceAdd, Int.reduceSub, Int.reduceNeg, Int.reduceToNat, Int.reducePow, Nat.reducePow, Int.reduceMul, Int.reduceDiv, ↓XH, ↓Ya m0, Ya m0, h1, h2]
        rfl
      · (repeat (first | exact Fr.refl _ | refine Fr.push ?_ _ | refine Fr.set ?_ _ _ (by intro h; first | omega | (simp only [go_sem] at h; omega))))
    · by_cases h3 : 15 < (bl body).length
      · have h3' : (15 : Int) < ((bl body).length : Int) := by omega
        rw [if_neg (by omega), if_pos h3]
        apply Yj _ (VY _ _ _ H) rfl
        rotate_left 2
        · simp (disch := first | with_reducible rfl | assumption | omega | rfl | (simp only [go_sem]; first | done | omega)) only [go_sem, ↓reduceIte, reduceCtorEq, Nat.reduceEqDiff, Nat.reduceAdd, Nat.reduceSub, Nat.reduceMul, Nat.reduceDiv, Nat.reduceMod, Nat.reduceLeDiff, Nat.reduceLT, Nat.reduceBEq, Int.reduceEq, Int.reduceBEq, Int.reduceBNe, Int.reduceLT, Int.reduceLE, Int.reduceAdd, Int.reduceSub, Int.reduceNeg, Int.reduceToNat, Int.reducePow, Nat.reducePow, Int.reduceMul, Int.reduceDiv, ↓XH, ↓Ya m0, Ya m0, h1, h2, h3']
          rfl
        · (repeat (first | exact Fr.refl _ | refine Fr.push ?_ _ | refine Fr.set ?_ _ _ (by intro h; first | omega | (simp only [go_sem] at h; omega))))
      · rw [if_neg (by omega), if_neg h3] at h
        exact absurd rfl h
def Z0 : Jb := ⟨0, 0, mk [], 0, 0, 0, 0⟩
def getJV : Option Jb → Value
  | some j => .tuple #[.agg ⟨j.l⟩, .int .i64 0]
  | none => .tuple #[.agg ⟨Z0.l⟩, .int .i64 9]
set_option maxHeartbeats 1000000 in
theorem q_QGet (bq bm bk : Nat) (A : List Jb) (tries last now id : Int) (H : AHeap) (ok : Ok H) (r : QR H bq bm bk A tries last now) (i : QI A tries last now) :
    CC F.jobs_Queue_Get [.pointer (some ⟨bq, 0, none⟩), .int .i64 id] H = some (getJV (fnd A id), H) := by
  obtain ⟨H1, hH1⟩ : ∃ H1, H.push (.cells [.int .i64 0, .int .i64 0, .string (mk []), .int .i64 0, .int .i64 0, .int .i64 0, .int .i64 0] T.api_Job true) = H1 := ⟨_, rfl⟩
  obtain ⟨s1, n1, f1⟩ := YL hH1
  have r1 := r.still s1
  have m0 := r1.q_none
  obtain ⟨ents, es, e1, e2, e3⟩ := r1.keys
  have fq := r1.f
  unfold Ul at fq
  rcases Zt (A := A) id with h | ⟨j, h⟩
  · rw [h]
    have hl : Xb Tryd.prog T.map_int_string (.map (some bk)) (.int .i64 id) true H1 = some (.tuple #[.string (mk []), .bool false]) := look_none Uv e1 e2 (k := id) (by rw [e3, h]; rfl) true
    obtain ⟨H2, hH2⟩ : ∃ H2, H1.set H.n (.cells [.int .i64 0, .int .i64 0, .string (mk []), .int .i64 0, .int .i64 0, .int .i64 0, .int .i64 0] T.api_Job true) = H2 := ⟨_, rfl⟩
    obtain ⟨s2, n2, f2, _⟩ := YG hH2
    show CC F.jobs_Queue_Get [.pointer (some ⟨bq, 0, none⟩), .int .i64 id] H = some (.tuple #[.agg #[.int .i64 0, .int .i64 0, .string (mk []), .int .i64 0, .int .i64 0, .int .i64 0, .int .i64 0], .int .i64 9], H)
    refine Yj (H' := H2) ?_ (ZX _ _ H) rfl (s1.then s2 fun b hb h => by omega)
    simp (disch := first | with_reducible rfl | assumption | omega | rfl | (simp only [go_sem]; first | done | omega)) only [go_sem, ↓reduceIte, reduceCtorEq, Nat.reduceEqDiff, Nat.reduceAdd, Nat.reduceSub, Nat.reduceMul, Nat.reduceDiv, Nat.reduceMod, Nat.reduceLeDiff, Nat.reduceLT, Nat.reduceBEq, Int.reduceEq, Int.reduceBEq, Int.reduceBNe, Int.reduceLT, Int.reduceLE, Int.reduceAdd, Int.reduceSub, Int.reduceNeg, Int.reduceToNat, Int.reducePow, Nat.reducePow, Int.reduceMul, Int.reduceDiv, ↓WA, hH1, ↓Ya m0, Ya m0, fq, hl, f1, hH2, f2, XD]
  · rw [h]
    obtain ⟨hj, hid⟩ := XG h
    have hok := i.a.ok j hj
    obtain ⟨v, hl, hv⟩ := ZM Uv e1 e2 (k := id) (a := X0 j) (by rw [e3, h]; rfl) true
    subst hv
    have hl : Xb Tryd.prog T.map_int_string (.map (some bk)) (.int .i64 id) true H1 = some (.tuple #[.string (X0 j), .bool true]) := hl
    have m1 := q_getM bm (Q8 A) (X0 j) H1 r1.mdl i.a.srt (by rw [Q2]; have := i.len; omega)
    rw [getJ i.a hj] at m1
    obtain ⟨kv, rv, H2, m2, s2, k2, k2', _, _⟩ := q_table H1
    obtain ⟨v3, H3, m3, so3⟩ := q_Read 1 kv rv kK kR (by8 1 :: Xj (Uk j)) (Xj (rest4 j)) H2 (ok.fr (s1.trans s2)) k2 k2' (by have := keyJ_len hok; omega) (by have := valJ_len hok; omega)
    rw [read7 hok] at m3 so3
    have m3 : CC F.rows_Read [tbV 1 kv rv, .string (X0 j), .string (valJ j)] H2 = some (.tuple #[v3, .int .i64 0], H3) := m3
    have m4 := q_job j hok v3 H3 so3.own.rd
    have m4 : CC F.jobs_job [v3] H3 = some (.agg #[.int .i64 j.id, .int .i64 j.prio, .string j.body, .int .i64 j.state, .int .i64 j.tries, .int .i64 j.who, .int .i64 j.til], H3) := m4
    have f3 : H3.f H.n = .cells [.int .i64 0, .int .i64 0, .string (mk []), .int .i64 0, .int .i64 0, .int .i64 0, .int .i64 0] T.api_Job true := by rw [(s2.trans so3.still).f (by omega) fun h => h]; exact f1
    obtain ⟨H4, hH4⟩ : ∃ H4, H3.set H.n (.cells [.int .i64 j.id, .int .i64 j.prio, .string j.body, .int .i64 j.state, .int .i64 j.tries, .int .i64 j.who, .int .i64 j.til] T.api_Job true) = H4 := ⟨_, rfl⟩
    obtain ⟨s4, n4, f4, _⟩ := YG hH4
    show CC F.jobs_Queue_Get [.pointer (some ⟨bq, 0, none⟩), .int .i64 id] H = some (.tuple #[.agg #[.int .i64 j.id, .int .i64 j.prio, .string j.body, .int .i64 j.state, .int .i64 j.tries, .int .i64 j.who, .int .i64 j.til], .int .i64 0], H)
    refine Yj (H' := H4) ?_ (ZX _ _ H) rfl (((s1.trans s2).trans so3.still).then s4 fun b hb h => by omega)
    simp (disch := first | with_reducible rfl | assumption | omega | rfl | (simp only [go_sem]; first | done | omega)) only [go_sem, ↓reduceIte, reduceCtorEq, Nat.reduceEqDiff, Nat.reduceAdd, Nat.reduceSub, Nat.reduceMul, Nat.reduceDiv, Nat.reduceMod, Nat.reduceLeDiff, Nat.reduceLT, Nat.reduceBEq, Int.reduceEq, Int.reduceBEq, Int.reduceBNe, Int.reduceLT, Int.reduceLE, Int.reduceAdd, Int.reduceSub, Int.reduceNeg, Int.reduceToNat, Int.reducePow, Nat.reducePow, Int.reduceMul, Int.reduceDiv, ↓WA, hH1, ↓Ya m0, Ya m0, fq, hl, ↓Ya m1, Ya m1, ↓Ya m2, Ya m2, ↓Ya m3, Ya m3, ↓Ya m4, Ya m4, f3, hH4, f4, XD]
end Go.Proofs.YtmiinbhnfojnbaaDoor

set_option maxRecDepth 10000
namespace Go.Proofs.YtmiinbhnfojnbaaDoor
open Go Eng
attribute [local congr] YX YZ YR
theorem rd_pr {H : AHeap} {v : Value} {l : List Pr} (r : Rd EPr H v l) {i : Nat} (hi : i < l.length) : ∃ b o, ixS 2 v (.int .i64 (i : Int)) = some (.pointer (some ⟨b, o, none⟩)) ∧ b < H.n ∧ UT (H.f b) o 2 = some [.string l[i].key, .string l[i].value] := by
  obtain ⟨b, o, h1, h2, h3, _⟩ := r.ix (q := .i64) hi
  exact ⟨b, o, h1, h2, h3⟩
set_option maxHeartbeats 2000000 in
theorem l_in (a : List UInt8) (kp : Jb → Bool) (J : List Jb) (hJ : ∀ j ∈ J, JOk j) (hk : ∀ j ∈ J, kp j = a.isPrefixOf (bl (X0 j))) (hl : J.length ≤ 1000) (w : Value) (H0 : AHeap) (ok0 : Ok H0) (rw0 : Rd EPr H0 w (J.map prJ)) :
    ∀ (t : List Jb) (i : Nat) (H : AHeap) (v : Value) (o : List Jb), J.drop i = t → SinceE EJb T.api_Job H0 H v o → o.length ≤ i →
    ∃ v' H', SinceE EJb T.api_Job H0 H' v' (o ++ t.filter kp) ∧ ∀ K : K, XQ (.string (mk a)) (.string (mk (bump a))) v w (.int .i64 (J.length : Int)) (.int .i64 (i : Int)) H (YI [8] 0 K) = K .normal [(8, v')] H'
  | [], i, H, v, o, hx, so, ho => by
    have h : J.length ≤ i := List.drop_eq_nil_iff.1 hx
    have hlt : ¬ (i : Int) < (J.length : Int) := by omega
    refine ⟨v, H, by simpa using so, fun K => ?_⟩
    rw [UF]
    simp (disch := first | with_reducible rfl | assumption | omega | rfl | (simp only [go_sem]; first | done | omega)) only [go_sem, ↓reduceIte, reduceCtorEq, Nat.reduceEqDiff, Nat.reduceAdd, Nat.reduceSub, Nat.reduceMul, Nat.reduceDiv, Nat.reduceMod, Nat.reduceLeDiff, Nat.reduceLT, Nat.reduceBEq, Int.reduceEq, Int.reduceBEq, Int.reduceBNe, Int.reduceLT, Int.reduceLE, Int.reduceAdd, Int.reduceSub, Int.reduceNeg, Int.reduceToNat, Int.reducePow, Nat.reducePow, Int.reduceMul, Int.reduceDiv, ↓XB, hlt]
  | j :: t, i, H, v, o, hx, so, ho => by
    obtain ⟨h, hxa, hx'⟩ := WB hx
    have hlt : (i : Int) < (J.length : Int) := by omega
    have hj : j ∈ J := by rw [← hxa]; exact List.getElem_mem h
    have hok := hJ j hj
    have hkj := hk j hj
    obtain ⟨b1, o1, i1, l1, c1⟩ := rd_pr (rw0.still so.still) (i := i) (by simpa using h)
    have hel : (J.map prJ)[i]'(by simpa using h) = prJ j := by rw [List.getElem_map, hxa]
    rw [hel] at c1
    have c1 : UT (H.f b1) o1 2 = some [.string (X0 j), .string (valJ j)] := c1
    obtain ⟨H1, hH1⟩ : ∃ H1, H.push (.cells [.string (mk []), .string (mk [])] T.api_Pair true) = H1 := ⟨_, rfl⟩
    obtain ⟨s1, n1, f1⟩ := YL hH1
    obtain ⟨H2, hH2⟩ : ∃ H2, H1.set H.n (.cells [.string (X0 j), .string (valJ j)] T.api_Pair true) = H2 := ⟨_, rfl⟩
    obtain ⟨s2, n2, f2, _⟩ := YG hH2
    have st2 : Yq H H2 := s1.then s2 fun b hb h => by omega
    have hsp := span_in a (bl (X0 j))
    have e1 : ((i : Int) + 1) = ((i + 1 : Nat) : Int) := by omega
    by_cases hp : a.isPrefixOf (bl (X0 j)) = true
    · -- it is there
      obtain ⟨g1, g2⟩ := hsp.2 hp
      rw [hp] at hkj
      obtain ⟨kv, rv, H3, m2, s3, k2, k2', _, _⟩ := q_table H2
      obtain ⟨v3, H4, m3, so3⟩ := q_Read 1 kv rv kK kR (by8 1 :: Xj (Uk j)) (Xj (rest4 j)) H3 (ok0.fr ((so.still.trans st2).trans s3)) k2 k2' (by have := keyJ_len hok; omega) (by have := valJ_len hok; omega)
      rw [read7 hok] at m3 so3
      have m3 : CC F.rows_Read [tbV 1 kv rv, .string (X0 j), .string (valJ j)] H3 = some (.tuple #[v3, .int .i64 0], H4) := m3
      have m4 := q_job j hok v3 H4 so3.own.rd
      have m4 : CC F.jobs_job [v3] H4 = some (.agg #[.int .i64 j.id, .int .i64 j.prio, .string j.body, .int .i64 j.state, .int .i64 j.tries, .int .i64 j.who, .int .i64 j.til], H4) := m4
      have f3 : H3.f H.n = .cells [.string (X0 j), .string (valJ j)] T.api_Pair true := by rw [s3.f (by omega) fun h => h]; exact f2
      obtain ⟨H5, hH5⟩ : ∃ H5, H4.push (.cells [.int .i64 j.id, .int .i64 j.prio, .string j.body, .int .i64 j.state, .int .i64 j.tries, .int .i64 j.who, .int .i64 j.til] T.api_Job true) = H5 := ⟨_, rfl⟩
      have st4 : Yq H H4 := (st2.trans s3).trans so3.still
      obtain ⟨v6, H6, m6, so6⟩ := (so.to st4).lit [j] (sz := 7) (bytes := 64) rfl (by decide) (H1 := H5) hH5 (by simp; omega)
      have m6 : Eng.app T.api_Job 7 64 v (Vn 7 (.slice (some ⟨H4.n, 0, none⟩) 1 2) H5) H5 = some (v6, H6) := m6
      obtain ⟨v', H', so', e'⟩ := l_in a kp J hJ hk hl w H0 ok0 rw0 t (i + 1) H6 v6 (o ++ [j]) hx' so6 (by simp; omega)
      refine ⟨v', H', by rw [List.filter_cons_of_pos hkj]; simpa using so', fun K => ?_⟩
      have e' := e' K
      rw [← e1] at e'
      have ck : okV (some true) (some H.n) H2 H3 H3 H3 = true := ZR (.inr (s3.ver (by omega) fun h => h)) (.inl s3.n)
      rw [UF]
      by_cases hb : bump a = []
      · simp (disch := first | with_reducible rfl | assumption | omega | rfl | (simp only [go_sem]; first | done | omega)) only [go_sem, ↓reduceIte, reduceCtorEq, Nat.reduceEqDiff, Nat.reduceAdd, Nat.reduceSub, Nat.reduceMul, Nat.reduceDiv, Nat.reduceMod, Nat.reduceLeDiff, Nat.reduceLT, Nat.reduceBEq, Int.reduceEq, Int.reduceBEq, Int.reduceBNe, Int.reduceLT, Int.reduceLE, Int.reduceAdd, Int.reduceSub, Int.reduceNeg, Int.reduceToNat, Int.reducePow, Nat.reducePow, Int.reduceMul, Int.reduceDiv, ↓XB, hlt, i1, c1, hH1, f1, hH2, f2, YT, g1, hb, ↓Ya m2, Ya m2, f3, ↓Ya m3, Ya m3, ck, ↓Ya m4, Ya m4, hH5, m6]
        rw [hb] at e'
        exact e'
      · have g3 := g2.resolve_left hb
        simp (disch := first | with_reducible rfl | assumption | omega | rfl | (simp only [go_sem]; first | done | omega)) only [go_sem, ↓reduceIte, reduceCtorEq, Nat.reduceEqDiff, Nat.reduceAdd, Nat.reduceSub, Nat.reduceMul, Nat.reduceDiv, Nat.reduceMod, Nat.reduceLeDiff, Nat.reduceLT, Nat.reduceBEq, Int.reduceEq, Int.reduceBEq, Int.reduceBNe, Int.reduceLT, Int.reduceLE, Int.reduceAdd, Int.reduceSub, Int.reduceNeg, Int.reduceToNat, Int.reducePow, Nat.reducePow, Int.reduceMul, Int.reduceDiv, ↓XB, hlt, i1, c1, hH1, f1, hH2, f2, YT, g1, hb, g3, ↓Ya m2, Ya m2, f3, ↓Ya m3, Ya m3, ck, ↓Ya m4, Ya m4, hH5, m6]
        exact e'
    · -- it is not
      have hp' : a.isPrefixOf (bl (X0 j)) = false := Bool.eq_false_iff.2 hp
      rw [hp'] at hkj
      obtain ⟨v', H', so', e'⟩ := l_in a kp J hJ hk hl w H0 ok0 rw0 t (i + 1) H2 v o hx' (so.to st2) (by omega)
      refine ⟨v', H', by rw [List.filter_cons_of_neg (by rw [hkj]; decide)]; exact so', fun K => ?_⟩
      have e' := e' K
      rw [← e1] at e'
      rw [UF]
      cases g1 : Op.bytesLess (bl (X0 j)) a with
      | true =>
        simp (disch := first | with_reducible rfl | assumption | omega | rfl | (simp only [go_sem]; first | done | omega)) only [go_sem, ↓reduceIte, reduceCtorEq, Nat.reduceEqDiff, Nat.reduceAdd, Nat.reduceSub, Nat.reduceMul, Nat.reduceDiv, Nat.reduceMod, Nat.reduceLeDiff, Nat.reduceLT, Nat.reduceBEq, Int.reduceEq, Int.reduceBEq, Int.reduceBNe, Int.reduceLT, Int.reduceLE, Int.reduceAdd, Int.reduceSub, Int.reduceNeg, Int.reduceToNat, Int.reducePow, Nat.reducePow, Int.reduceMul, Int.reduceDiv, ↓XB, hlt, i1, c1, hH1, f1, hH2, f2, YT, g1]
        exact e'
      | false =>
        have hb : ¬ bump a = [] := fun h => hp (hsp.1 ⟨g1, .inl h⟩)
        have g3 : Op.bytesLess (bl (X0 j)) (bump a) = false := by
          cases g : Op.bytesLess (bl (X0 j)) (bump a) with
          | false => rfl
          | true => exact absurd (hsp.1 ⟨g1, .inr g⟩) hp
        simp (disch := first | with_reducible rfl | assumption | omega | rfl | (simp only [go_sem]; first | done | omega)) only [go_sem, ↓reduceIte, reduceCtorEq, Nat.reduceEqDiff, Nat.reduceAdd, Nat.reduceSub, Nat.reduceMul, Nat.reduceDiv, Nat.reduceMod, Nat.reduceLeDiff, Nat.reduceLT, Nat.reduceBEq, Int.reduceEq, Int.reduceBEq, Int.reduceBNe, Int.reduceLT, Int.reduceLE, Int.reduceAdd, Int.reduceSub, Int.reduceNeg, Int.reduceToNat, Int.reducePow, Nat.reducePow, Int.reduceMul, Int.reduceDiv, ↓XB, hlt, i1, c1, hH1, f1, hH2, f2, YT, g1, hb, g3]
        exact e'
set_option maxHeartbeats 1000000 in
theorem q_in {a : List UInt8} {kp : Jb → Bool} (bq bm bk : Nat) (A : List Jb) (tries last now : Int) (cs : List Cl) (cv : Value) (H : AHeap) (ok : Ok H) (r : QR H bq bm bk A tries last now) (i : QI A tries last now)
    (hc : Rd ECl H cv cs) (hcl : cs.length ≤ 3) (hcc : ∀ c ∈ cs, XK c) (hs : spanOk 1 kK kR cs = true) (ha : by8 1 :: Xj cs = a) (hal : a.length ≤ 24) (hk : ∀ j ∈ Vr A, kp j = a.isPrefixOf (bl (X0 j))) :
    ∃ v H', CC F.jobs_Queue_in [.pointer (some ⟨bq, 0, none⟩), cv] H = some (v, H') ∧ SinceE EJb T.api_Job H H' v ((Vr A).filter kp) := by
  obtain ⟨kv, rv, H1, m1, s1, k1, k1', _, _⟩ := q_table H
  obtain ⟨H2, s2, m2⟩ := q_Span 1 kv rv kK kR cs cv H1 (ok.fr s1) k1 k1' (hc.still s1) (by omega) hcc hs
  rw [show (1 : Int).toNat = 1 from rfl, ha, if_neg (by omega)] at m2
  have r2 := r.still (s1.trans s2)
  have hlen := i.len
  obtain ⟨w, H3, m3, ow, s3, _⟩ := q_Pairs bm (Q8 A) H2 r2.mdl (by rw [Q2]; omega)
  have hlw := ow.rd.lenS
  have fq := r2.f
  unfold Ul at fq
  have hJl : (Vr A).length = A.length := Gk A
  have hml : (Q8 A).length = (Vr A).length := by rw [Q2, Gk]
  rw [hml] at hlw
  have st := (s1.trans s2).trans s3
  obtain ⟨v, H4, so, e⟩ := l_in a kp (Vr A) (fun j hj => i.a.ok j (V1.1 hj)) hk (by omega) w H3 (ok.fr st) ow.rd (Vr A) 0 H3 (.slice none 0 0) [] (by simp) SinceE.nil (by simp)
  have e : ∀ K : K, XQ (.string (mk a)) (.string (mk (bump a))) (.slice none 0 0) w (.int .i64 ((Vr A).length : Int)) (.int .i64 0) H3 (YI [8] 0 K) = K .normal [(8, v)] H4 := e
  have so' : SinceE EJb T.api_Job H H4 v ((Vr A).filter kp) := ⟨st.trans so.still, by simpa using so.own, fun b hb => Nat.le_trans st.n (so.new b hb)⟩
  obtain ⟨H5, h1, h2⟩ := sinceE_tidied so' (d_jobs_Queue_in (.pointer (some ⟨bq, 0, none⟩)) cv H (r := (v, H4)) (by
    simp (disch := first | with_reducible rfl | assumption | omega | rfl | (simp only [go_sem]; first | done | omega)) only [go_sem, ↓reduceIte, reduceCtorEq, Nat.reduceEqDiff, Nat.reduceAdd, Nat.reduceSub, Nat.reduceMul, Nat.reduceDiv, Nat.reduceMod, Nat.reduceLeDiff, Nat.reduceLT, Nat.reduceBEq, Int.reduceEq, Int.reduceBEq, Int.reduceBNe, Int.reduceLT, Int.reduceLE, Int.reduceAdd, Int.reduceSub, Int.reduceNeg, Int.reduceToNat, Int.reducePow, Nat.reducePow, Int.reduceMul, Int.reduceDiv, ↓Vt, ↓Ya m1, Ya m1, ↓Ya m2, Ya m2, fq, ↓Ya m3, Ya m3, hlw, e]))
  exact ⟨v, H5, h1, h2⟩
theorem key_pre (j : Jb) : [by8 1].isPrefixOf (bl (X0 j)) = true := by
  unfold X0
  rw [YT]
  simp
theorem key_state {j : Jb} (h : JOk j) {s : Int} (hs : 1 ≤ s ∧ s ≤ 3) : (by8 1 :: Xj [VL s]).isPrefixOf (bl (X0 j)) = decide (j.state = s) := by
  unfold X0
  rw [YT]
  have := span_cells (n := 1) (ks := kK) (l := [VL s, VL 0, VL 0]) (m := Uk j) kind1 (fun c hc => by
    simp only [List.mem_cons, List.not_mem_nil, or_false] at hc
    rcases hc with rfl | rfl | rfl <;> exact numC_ok (by omega) (by omega)) (key3_ok h) (by unfold Vf; simp only [VQ, numC_p]; rfl) (key3_are j) 1
  have e : (by8 (1 : Int).toNat :: Xj (([VL s, VL 0, VL 0] : List Cl).take 1)) = by8 1 :: Xj [VL s] := rfl
  rw [e] at this
  rw [show (by8 1 :: Xj (Uk j)) = (by8 (1 : Int).toNat :: Xj (Uk j)) from rfl, this]
  apply decide_eq_decide.2
  show [VL s] = [VL j.state] ↔ _
  constructor
  · intro h
    exact (congrArg Cl.u (List.cons.inj h).1).symm
  · intro h; rw [h]
theorem q_inAll (bq bm bk : Nat) (A : List Jb) (tries last now : Int) (H : AHeap) (ok : Ok H) (r : QR H bq bm bk A tries last now) (i : QI A tries last now) :
    ∃ v H', CC F.jobs_Queue_in [.pointer (some ⟨bq, 0, none⟩), .slice none 0 0] H = some (v, H') ∧ SinceE EJb T.api_Job H H' v (Vr A) := by
  have := q_in (a := [by8 1]) (kp := fun _ => true) bq bm bk A tries last now [] (.slice none 0 0) H ok r i (.inl ⟨rfl, rfl⟩) (by decide) (fun c hc => by cases hc) (by decide) rfl (by decide) (fun j hj => (key_pre j).symm)
  rwa [List.filter_eq_self.2 fun _ _ => rfl] at this
theorem q_inS (bq bm bk : Nat) (A : List Jb) (tries last now s : Int) (hs : 1 ≤ s ∧ s ≤ 3) (cv : Value) (H : AHeap) (ok : Ok H) (r : QR H bq bm bk A tries last now) (i : QI A tries last now) (hc : Rd ECl H cv [VL s]) :
    ∃ v H', CC F.jobs_Queue_in [.pointer (some ⟨bq, 0, none⟩), cv] H = some (v, H') ∧ SinceE EJb T.api_Job H H' v ((Vr A).filter fun j => decide (j.state = s)) := by
  refine q_in (a := by8 1 :: Xj [VL s]) bq bm bk A tries last now [VL s] cv H ok r i hc (by show 1 ≤ 3; omega) (fun c hc => ?_) ?_ rfl ?_ fun j hj => ?_
  · rw [List.mem_singleton.1 hc]; exact numC_ok (by omega) (by omega)
  · unfold spanOk; rw [valid7]; simp only [VQ, numC_p]; rfl
  · have := VT (n := s) (k := 1) (by omega) (by show _ < 256; omega)
    simp only [Xj, List.length_cons, List.length_append, List.append_nil, List.length_nil]
    omega
  · exact (key_state (i.a.ok j (V1.1 hj)) hs).symm
theorem q_QJobs (bq bm bk : Nat) (A : List Jb) (tries last now : Int) (H : AHeap) (ok : Ok H) (r : QR H bq bm bk A tries last now) (i : QI A tries last now) :
    ∃ v H', CC F.jobs_Queue_Jobs [.pointer (some ⟨bq, 0, none⟩)] H = some (v, H') ∧ SinceE EJb T.api_Job H H' v (Vr A) := by
  have m0 := r.q_none
  obtain ⟨v, H1, m1, so⟩ := q_inAll bq bm bk A tries last now H ok r i
  obtain ⟨H2, h1, h2⟩ := sinceE_tidied so (d_jobs_Queue_Jobs (.pointer (some ⟨bq, 0, none⟩)) H (r := (v, H1)) (by simp (disch := first | with_reducible rfl | assumption | omega | rfl | (simp only [go_sem]; first | done | omega)) only [go_sem, ↓reduceIte, reduceCtorEq, Nat.reduceEqDiff, Nat.reduceAdd, Nat.reduceSub, Nat.reduceMul, Nat.reduceDiv, Nat.reduceMod, Nat.reduceLeDiff, Nat.reduceLT, Nat.reduceBEq, Int.reduceEq, Int.reduceBEq, Int.reduceBNe, Int.reduceLT, Int.reduceLE, Int.reduceAdd, Int.reduceSub, Int.reduceNeg, Int.reduceToNat, Int.reducePow, Nat.reducePow, Int.reduceMul, Int.reduceDiv, ↓WX, ↓Ya m0, Ya m0, ↓Ya m1, Ya m1]))
  exact ⟨v, H2, h1, h2⟩
theorem q_QNow (bq bm bk : Nat) (A : List Jb) (tries last now : Int) (H : AHeap) (r : QR H bq bm bk A tries last now) : CC F.jobs_Queue_Now [.pointer (some ⟨bq, 0, none⟩)] H = some (.int .i64 now, H) := by
  have m0 := r.q_none
  have fq := r.f
  unfold Ul at fq
  apply Yj _ (d_jobs_Queue_Now _ H) rfl
  rotate_left 2
  · simp (disch := first | with_reducible rfl | assumption | omega | rfl | (simp only [go_sem]; first | done | omega)) only [go_sem, ↓reduceIte, reduceCtorEq, Nat.reduceEqDiff, Nat.reduceAdd, Nat.reduceSub, Nat.reduceMul, Nat.reduceDiv, Nat.reduceMod, Nat.reduceLeDiff, Nat.reduceLT, Nat.reduceBEq, Int.reduceEq, Int.reduceBEq, Int.reduceBNe, Int.reduceLT, Int.reduceLE, Int.reduceAdd, Int.reduceSub, Int.reduceNeg, Int.reduceToNat, Int.reducePow, Nat.reducePow, Int.reduceMul, Int.reduceDiv, ↓W9, ↓Ya m0, Ya m0, fq]
    rfl
  · (repeat (first | exact Fr.refl _ | refine Fr.push ?_ _ | refine Fr.set ?_ _ _ (by intro h; first | omega | (simp only [go_sem] at h; omega))))
end Go.Proofs.YtmiinbhnfojnbaaDoor

set_option maxRecDepth 10000
namespace Go.Proofs.YtmiinbhnfojnbaaDoor
open Go Eng
attribute [local congr] YX YZ YR
theorem q_QNew (tries : Int) (H : AHeap) (h : 1 ≤ tries ∧ tries ≤ 100) :
    ∃ bq bm bk H', CC F.jobs_New [.int .i64 tries] H = some (.tuple #[.pointer (some ⟨bq, 0, none⟩), .int .i64 0], H') ∧ QR H' bq bm bk [] tries 0 0 ∧ QI [] tries 0 0 ∧ Yq H H' ∧ (∀ c, QB H' bq bm bk c → H.n ≤ c) := by
  have h1 : ¬ tries < 1 := by omega
  have h2 : ¬ 100 < tries := by omega
  obtain ⟨H1, hH1⟩ : ∃ H1, H.push (.cells [.slice none 0 0] T.model_Model true) = H1 := ⟨_, rfl⟩
  obtain ⟨s1, n1, f1⟩ := YL hH1
  have mm := make_map Uv (H := H1)
  obtain ⟨H2, hH2⟩ : ∃ H2, H1.push (.map []) = H2 := ⟨_, rfl⟩
  rw [hH2] at mm
  obtain ⟨s2, n2, f2⟩ := YL hH2
  obtain ⟨H3, hH3⟩ : ∃ H3, H2.push (.cells [.pointer (some ⟨H.n, 0, none⟩), .map (some H1.n), .int .i64 tries, .int .i64 0, .int .i64 0] T.jobs_Queue true) = H3 := ⟨_, rfl⟩
  obtain ⟨s3, n3, f3⟩ := YL hH3
  have g1 : H3.f H.n = .cells [.slice none 0 0] T.model_Model true := by rw [(s2.trans s3).f (by omega) fun h => h]; exact f1
  have hmb : ∀ c, MB H3 H.n c → c = H.n := fun c hc => by
    rcases hc with h | ⟨v, hv, hb⟩
    · exact h
    · rw [g1] at hv; cases hv; cases hb
  refine ⟨H2.n, H.n, H1.n, H3, (d_jobs_New _ H (r := (.tuple #[.pointer (some ⟨H2.n, 0, none⟩), .int .i64 0], H3)) ?_).trans (congrArg some (WK rfl)), ⟨f3, by omega, by omega, ⟨_, g1, by omega, .inl ⟨rfl, rfl⟩, fun h => by cases h⟩, ⟨[], [], by rw [s3.f (by omega) fun h => h]; exact f2, trivial, fun _ => rfl⟩, fun h => by have := hmb _ h; omega, fun h => by have := hmb _ h; omega, by omega⟩, ⟨AOk.nil 0, h, by omega, by omega, fun _ h => (by cases h)⟩, (s1.trans s2).trans s3, fun c hc => ?_⟩
  · simp (disch := first | with_reducible rfl | assumption | omega | rfl | (simp only [go_sem]; first | done | omega)) only [go_sem, ↓reduceIte, reduceCtorEq, Nat.reduceEqDiff, Nat.reduceAdd, Nat.reduceSub, Nat.reduceMul, Nat.reduceDiv, Nat.reduceMod, Nat.reduceLeDiff, Nat.reduceLT, Nat.reduceBEq, Int.reduceEq, Int.reduceBEq, Int.reduceBNe, Int.reduceLT, Int.reduceLE, Int.reduceAdd, Int.reduceSub, Int.reduceNeg, Int.reduceToNat, Int.reducePow, Nat.reducePow, Int.reduceMul, Int.reduceDiv, ↓QN, h1, h2, hH1, mm, hH3]
  · rcases hc with h | h | h
    · omega
    · omega
    · have := hmb c h; omega
def V3 (A : List Jb) (who id : Int) : Int :=
  if who < 1 ∨ 1000 < who then 2 else match fnd A id with
    | none => 9
    | some j => if j.state = 2 ∧ j.who = who then 0 else 8
theorem takenE_ok {A : List Jb} {who id : Int} (h : V3 A who id = 0) : ∃ j, fnd A id = some j ∧ j.state = 2 ∧ j.who = who ∧ 1 ≤ who ∧ who ≤ 1000 := by
  unfold V3 at h
  split at h
  · cases h
  · rename_i h1
    split at h
    · cases h
    · rename_i j hj
      split at h
      · rename_i h2; exact ⟨j, hj, h2.1, h2.2, by omega, by omega⟩
      · cases h
set_option maxHeartbeats 1000000 in
theorem q_Qtaken_bad (bq bm bk : Nat) (A : List Jb) (tries last now who id : Int) (H : AHeap) (ok : Ok H) (r : QR H bq bm bk A tries last now) (i : QI A tries last now) (h : V3 A who id ≠ 0) :
    CC F.jobs_Queue_taken [.pointer (some ⟨bq, 0, none⟩), .int .i64 who, .int .i64 id] H = some (.tuple #[.agg #[.int .i64 0, .int .i64 0, .string (mk []), .int .i64 0, .int .i64 0, .int .i64 0, .int .i64 0], .int .i64 (V3 A who id)], H) := by
  obtain ⟨H1, hH1⟩ : ∃ H1, H.push (.cells [.int .i64 0, .int .i64 0, .string (mk []), .int .i64 0, .int .i64 0, .int .i64 0, .int .i64 0] T.api_Job true) = H1 := ⟨_, rfl⟩
  obtain ⟨s1, n1, f1⟩ := YL hH1
  have r1 := r.still s1
  have m0 := r1.q_none
  obtain ⟨H2, hH2⟩ : ∃ H2, H1.set H.n (.cells [.int .i64 0, .int .i64 0, .string (mk []), .int .i64 0, .int .i64 0, .int .i64 0, .int .i64 0] T.api_Job true) = H2 := ⟨_, rfl⟩
  obtain ⟨s2, n2, f2, _⟩ := YG hH2
  have m1 := q_QGet bq bm bk A tries last now id H1 (ok.fr s1) r1 i
  unfold V3 at h ⊢
  by_cases h1 : who < 1
  · rw [if_pos (.inl h1)]
    refine Yj (H' := H2) ?_ (WI _ _ _ H) rfl (s1.then s2 fun b hb h => by omega)
    simp (disch := first | with_reducible rfl | assumption | omega | rfl | (simp only [go_sem]; first | done | omega)) only [go_sem, ↓reduceIte, reduceCtorEq, Nat.reduceEqDiff, Nat.reduceAdd, Nat.reduceSub, Nat.reduceMul, Nat.reduceDiv, Nat.reduceMod, Nat.reduceLeDiff, Nat.reduceLT, Nat.reduceBEq, Int.reduceEq, Int.reduceBEq, Int.reduceBNe, Int.reduceLT, Int.reduceLE, Int.reduceAdd, Int.reduceSub, Int.reduceNeg, Int.reduceToNat, Int.reducePow, Nat.reducePow, Int.reduceMul, Int.reduceDiv, ↓Y0, hH1, ↓Ya m0, Ya m0, h1, f1, hH2, f2, XD]
  by_cases h2 : 1000 < who
  · rw [if_pos (.inr h2)]
    refine Yj (H' := H2) ?_ (WI _ _ _ H) rfl (s1.then s2 fun b hb h => by omega)
    simp (disch := first | with_reducible rfl | assumption | omega | rfl | (simp only [go_sem]; first | done | omega)) only [go_sem, ↓reduceIte, reduceCtorEq, Nat.reduceEqDiff, Nat.reduceAdd, Nat.reduceSub, Nat.reduceMul, Nat.reduceDiv, Nat.reduceMod, Nat.reduceLeDiff, Nat.reduceLT, Nat.reduceBEq, Int.reduceEq, Int.reduceBEq, Int.reduceBNe, Int.reduceLT, Int.reduceLE, Int.reduceAdd, Int.reduceSub, Int.reduceNeg, Int.reduceToNat, Int.reducePow, Nat.reducePow, Int.reduceMul, Int.reduceDiv, ↓Y0, hH1, ↓Ya m0, Ya m0, h1, h2, f1, hH2, f2, XD]
  rw [if_neg (by omega)] at h ⊢
  obtain ⟨H3, hH3⟩ : ∃ H3, H1.push (.cells [.int .i64 0, .int .i64 0, .string (mk []), .int .i64 0, .int .i64 0, .int .i64 0, .int .i64 0] T.api_Job true) = H3 := ⟨_, rfl⟩
  obtain ⟨s3, n3, f3⟩ := YL hH3
  rcases Zt (A := A) id with hf | ⟨j, hf⟩
  · rw [hf] at m1 h ⊢
    dsimp only
    have m1 : CC F.jobs_Queue_Get [.pointer (some ⟨bq, 0, none⟩), .int .i64 id] H1 = some (.tuple #[.agg #[.int .i64 0, .int .i64 0, .string (mk []), .int .i64 0, .int .i64 0, .int .i64 0, .int .i64 0], .int .i64 9], H1) := m1
    obtain ⟨H4, hH4⟩ : ∃ H4, H3.set H1.n (.cells [.int .i64 0, .int .i64 0, .string (mk []), .int .i64 0, .int .i64 0, .int .i64 0, .int .i64 0] T.api_Job true) = H4 := ⟨_, rfl⟩
    obtain ⟨s4, n4, f4, _⟩ := YG hH4
    have g4 : H4.f H.n = .cells [.int .i64 0, .int .i64 0, .string (mk []), .int .i64 0, .int .i64 0, .int .i64 0, .int .i64 0] T.api_Job true := by rw [s4.f (by omega) (by omega), s3.f (by omega) fun h => h]; exact f1
    obtain ⟨H5, hH5⟩ : ∃ H5, H4.set H.n (.cells [.int .i64 0, .int .i64 0, .string (mk []), .int .i64 0, .int .i64 0, .int .i64 0, .int .i64 0] T.api_Job true) = H5 := ⟨_, rfl⟩
    obtain ⟨s5, n5, f5, _⟩ := YG hH5
    refine Yj (H' := H5) ?_ (WI _ _ _ H) rfl (((s1.trans s3).then s4 fun b hb h => by omega).then s5 fun b hb h => by omega)
    simp (disch := first | with_reducible rfl | assumption | omega | rfl | (simp only [go_sem]; first | done | omega)) only [go_sem, ↓reduceIte, reduceCtorEq, Nat.reduceEqDiff, Nat.reduceAdd, Nat.reduceSub, Nat.reduceMul, Nat.reduceDiv, Nat.reduceMod, Nat.reduceLeDiff, Nat.reduceLT, Nat.reduceBEq, Int.reduceEq, Int.reduceBEq, Int.reduceBNe, Int.reduceLT, Int.reduceLE, Int.reduceAdd, Int.reduceSub, Int.reduceNeg, Int.reduceToNat, Int.reducePow, Nat.reducePow, Int.reduceMul, Int.reduceDiv, ↓Y0, hH1, ↓Ya m0, Ya m0, h1, h2, ↓Ya m1, Ya m1, hH3, f3, hH4, g4, hH5, f5, XD]
  · rw [hf] at m1 h ⊢
    dsimp only at h ⊢
    have m1 : CC F.jobs_Queue_Get [.pointer (some ⟨bq, 0, none⟩), .int .i64 id] H1 = some (.tuple #[.agg #[.int .i64 j.id, .int .i64 j.prio, .string j.body, .int .i64 j.state, .int .i64 j.tries, .int .i64 j.who, .int .i64 j.til], .int .i64 0], H1) := m1
    have hb : ¬ (j.state = 2 ∧ j.who = who) := fun hc => h (by rw [if_pos hc])
    rw [if_neg hb]
    obtain ⟨H4, hH4⟩ : ∃ H4, H3.set H1.n (.cells [.int .i64 j.id, .int .i64 j.prio, .string j.body, .int .i64 j.state, .int .i64 j.tries, .int .i64 j.who, .int .i64 j.til] T.api_Job true) = H4 := ⟨_, rfl⟩
    obtain ⟨s4, n4, f4, _⟩ := YG hH4
    have g4 : H4.f H.n = .cells [.int .i64 0, .int .i64 0, .string (mk []), .int .i64 0, .int .i64 0, .int .i64 0, .int .i64 0] T.api_Job true := by rw [s4.f (by omega) (by omega), s3.f (by omega) fun h => h]; exact f1
    obtain ⟨H5, hH5⟩ : ∃ H5, H4.set H.n (.cells [.int .i64 0, .int .i64 0, .string (mk []), .int .i64 0, .int .i64 0, .int .i64 0, .int .i64 0] T.api_Job true) = H5 := ⟨_, rfl⟩
    obtain ⟨s5, n5, f5, _⟩ := YG hH5
    refine Yj (H' := H5) ?_ (WI _ _ _ H) rfl (((s1.trans s3).then s4 fun b hb h => by omega).then s5 fun b hb h => by omega)
    by_cases c1 : j.state = 2
    · have c2 : ¬ j.who = who := fun hc => hb ⟨c1, hc⟩
      simp (disch := first | with_reducible rfl | assumption | omega | rfl | (simp only [go_sem]; first | done | omega)) only [go_sem, ↓reduceIte, reduceCtorEq, Nat.reduceEqDiff, Nat.reduceAdd, Nat.reduceSub, Nat.reduceMul, Nat.reduceDiv, Nat.reduceMod, Nat.reduceLeDiff, Nat.reduceLT, Nat.reduceBEq, Int.reduceEq, Int.reduceBEq, Int.reduceBNe, Int.reduceLT, Int.reduceLE, Int.reduceAdd, Int.reduceSub, Int.reduceNeg, Int.reduceToNat, Int.reducePow, Nat.reducePow, Int.reduceMul, Int.reduceDiv, ↓Y0, hH1, ↓Ya m0, Ya m0, h1, h2, ↓Ya m1, Ya m1, hH3, f3, hH4, f4, eq_true c1, c2, g4, hH5, f5, XD]
    · simp (disch := first | with_reducible rfl | assumption | omega | rfl | (simp only [go_sem]; first | done | omega)) only [go_sem, ↓reduceIte, reduceCtorEq, Nat.reduceEqDiff, Nat.reduceAdd, Nat.reduceSub, Nat.reduceMul, Nat.reduceDiv, Nat.reduceMod, Nat.reduceLeDiff, Nat.reduceLT, Nat.reduceBEq, Int.reduceEq, Int.reduceBEq, Int.reduceBNe, Int.reduceLT, Int.reduceLE, Int.reduceAdd, Int.reduceSub, Int.reduceNeg, Int.reduceToNat, Int.reducePow, Nat.reducePow, Int.reduceMul, Int.reduceDiv, ↓Y0, hH1, ↓Ya m0, Ya m0, h1, h2, ↓Ya m1, Ya m1, hH3, f3, hH4, f4, c1, g4, hH5, f5, XD]
set_option maxHeartbeats 1000000 in
theorem q_Qtaken (bq bm bk : Nat) (A : List Jb) (tries last now who id : Int) (j : Jb) (H : AHeap) (ok : Ok H) (r : QR H bq bm bk A tries last now) (i : QI A tries last now) (hf : fnd A id = some j) (hs : j.state = 2) (hw : j.who = who) (h1 : 1 ≤ who) (h2 : who ≤ 1000) :
    CC F.jobs_Queue_taken [.pointer (some ⟨bq, 0, none⟩), .int .i64 who, .int .i64 id] H = some (.tuple #[.agg #[.int .i64 j.id, .int .i64 j.prio, .string j.body, .int .i64 j.state, .int .i64 j.tries, .int .i64 j.who, .int .i64 j.til], .int .i64 0], H) := by
  obtain ⟨H1, hH1⟩ : ∃ H1, H.push (.cells [.int .i64 0, .int .i64 0, .string (mk []), .int .i64 0, .int .i64 0, .int .i64 0, .int .i64 0] T.api_Job true) = H1 := ⟨_, rfl⟩
  obtain ⟨s1, n1, f1⟩ := YL hH1
  have r1 := r.still s1
  have m0 := r1.q_none
  have m1 := q_QGet bq bm bk A tries last now id H1 (ok.fr s1) r1 i
  rw [hf] at m1
  have m1 : CC F.jobs_Queue_Get [.pointer (some ⟨bq, 0, none⟩), .int .i64 id] H1 = some (.tuple #[.agg #[.int .i64 j.id, .int .i64 j.prio, .string j.body, .int .i64 j.state, .int .i64 j.tries, .int .i64 j.who, .int .i64 j.til], .int .i64 0], H1) := m1
  have h1' : ¬ who < 1 := by omega
  have h2' : ¬ 1000 < who := by omega
  obtain ⟨H3, hH3⟩ : ∃ H3, H1.push (.cells [.int .i64 0, .int .i64 0, .string (mk []), .int .i64 0, .int .i64 0, .int .i64 0, .int .i64 0] T.api_Job true) = H3 := ⟨_, rfl⟩
  obtain ⟨s3, n3, f3⟩ := YL hH3
  obtain ⟨H4, hH4⟩ : ∃ H4, H3.set H1.n (.cells [.int .i64 j.id, .int .i64 j.prio, .string j.body, .int .i64 j.state, .int .i64 j.tries, .int .i64 j.who, .int .i64 j.til] T.api_Job true) = H4 := ⟨_, rfl⟩
  obtain ⟨s4, n4, f4, _⟩ := YG hH4
  have g4 : H4.f H.n = .cells [.int .i64 0, .int .i64 0, .string (mk []), .int .i64 0, .int .i64 0, .int .i64 0, .int .i64 0] T.api_Job true := by rw [s4.f (by omega) (by omega), s3.f (by omega) fun h => h]; exact f1
  obtain ⟨H5, hH5⟩ : ∃ H5, H4.set H.n (.cells [.int .i64 j.id, .int .i64 j.prio, .string j.body, .int .i64 j.state, .int .i64 j.tries, .int .i64 j.who, .int .i64 j.til] T.api_Job true) = H5 := ⟨_, rfl⟩
  obtain ⟨s5, n5, f5, _⟩ := YG hH5
  refine Yj (H' := H5) ?_ (WI _ _ _ H) rfl (((s1.trans s3).then s4 fun b hb h => by omega).then s5 fun b hb h => by omega)
  simp (disch := first | with_reducible rfl | assumption | omega | rfl | (simp only [go_sem]; first | done | omega)) only [go_sem, ↓reduceIte, reduceCtorEq, Nat.reduceEqDiff, Nat.reduceAdd, Nat.reduceSub, Nat.reduceMul, Nat.reduceDiv, Nat.reduceMod, Nat.reduceLeDiff, Nat.reduceLT, Nat.reduceBEq, Int.reduceEq, Int.reduceBEq, Int.reduceBNe, Int.reduceLT, Int.reduceLE, Int.reduceAdd, Int.reduceSub, Int.reduceNeg, Int.reduceToNat, Int.reducePow, Nat.reducePow, Int.reduceMul, Int.reduceDiv, ↓Y0, hH1, ↓Ya m0, Ya m0, h1', h2', ↓Ya m1, Ya m1, hH3, f3, hH4, f4, eq_true hs, eq_true hw, g4, hH5, f5, XD]
theorem q_QFinish_err (p : Value) (who id e : Int) (he : e ≠ 0) (H : AHeap) (m : CC F.jobs_Queue_taken [p, .int .i64 who, .int .i64 id] H = some (.tuple #[.agg #[.int .i64 0, .int .i64 0, .string (mk []), .int .i64 0, .int .i64 0, .int .i64 0, .int .i64 0], .int .i64 e], H)) : CC F.jobs_Queue_Finish [p, .int .i64 who, .int .i64 id] H = some (.int .i64 e, H) := by
  obtain ⟨H1, hH1⟩ : ∃ H1, H.push (.cells [.int .i64 0, .int .i64 0, .string (mk []), .int .i64 0, .int .i64 0, .int .i64 0, .int .i64 0] T.api_Job true) = H1 := ⟨_, rfl⟩
  obtain ⟨s1, n1, f1⟩ := YL hH1
  obtain ⟨H2, hH2⟩ : ∃ H2, H1.set H.n (.cells [.int .i64 0, .int .i64 0, .string (mk []), .int .i64 0, .int .i64 0, .int .i64 0, .int .i64 0] T.api_Job true) = H2 := ⟨_, rfl⟩
  obtain ⟨s2, n2, f2, _⟩ := YG hH2
  refine Yj (H' := H2) ?_ (Qw _ _ _ H) rfl (s1.then s2 fun b hb h => by omega)
  simp (disch := first | with_reducible rfl | assumption | omega | rfl | (simp only [go_sem]; first | done | omega)) only [go_sem, ↓reduceIte, reduceCtorEq, Nat.reduceEqDiff, Nat.reduceAdd, Nat.reduceSub, Nat.reduceMul, Nat.reduceDiv, Nat.reduceMod, Nat.reduceLeDiff, Nat.reduceLT, Nat.reduceBEq, Int.reduceEq, Int.reduceBEq, Int.reduceBNe, Int.reduceLT, Int.reduceLE, Int.reduceAdd, Int.reduceSub, Int.reduceNeg, Int.reduceToNat, Int.reducePow, Nat.reducePow, Int.reduceMul, Int.reduceDiv, ↓XS, ↓Ya m, Ya m, hH1, f1, hH2, he]
theorem q_QBack_err (p : Value) (who id e : Int) (he : e ≠ 0) (H : AHeap) (m : CC F.jobs_Queue_taken [p, .int .i64 who, .int .i64 id] H = some (.tuple #[.agg #[.int .i64 0, .int .i64 0, .string (mk []), .int .i64 0, .int .i64 0, .int .i64 0, .int .i64 0], .int .i64 e], H)) : CC F.jobs_Queue_Back [p, .int .i64 who, .int .i64 id] H = some (.int .i64 e, H) := by
  obtain ⟨H1, hH1⟩ : ∃ H1, H.push (.cells [.int .i64 0, .int .i64 0, .string (mk []), .int .i64 0, .int .i64 0, .int .i64 0, .int .i64 0] T.api_Job true) = H1 := ⟨_, rfl⟩
  obtain ⟨s1, n1, f1⟩ := YL hH1
  obtain ⟨H2, hH2⟩ : ∃ H2, H1.set H.n (.cells [.int .i64 0, .int .i64 0, .string (mk []), .int .i64 0, .int .i64 0, .int .i64 0, .int .i64 0] T.api_Job true) = H2 := ⟨_, rfl⟩
  obtain ⟨s2, n2, f2, _⟩ := YG hH2
  refine Yj (H' := H2) ?_ (Zn _ _ _ H) rfl (s1.then s2 fun b hb h => by omega)
  simp (disch := first | with_reducible rfl | assumption | omega | rfl | (simp only [go_sem]; first | done | omega)) only [go_sem, ↓reduceIte, reduceCtorEq, Nat.reduceEqDiff, Nat.reduceAdd, Nat.reduceSub, Nat.reduceMul, Nat.reduceDiv, Nat.reduceMod, Nat.reduceLeDiff, Nat.reduceLT, Nat.reduceBEq, Int.reduceEq, Int.reduceBEq, Int.reduceBNe, Int.reduceLT, Int.reduceLE, Int.reduceAdd, Int.reduceSub, Int.reduceNeg, Int.reduceToNat, Int.reducePow, Nat.reducePow, Int.reduceMul, Int.reduceDiv, ↓Wi, ↓Ya m, Ya m, hH1, f1, hH2, he]
set_option maxHeartbeats 1000000 in
theorem q_QFinish (bq bm bk : Nat) (A : List Jb) (tries last now who id : Int) (H : AHeap) (ok : Ok H) (r : QR H bq bm bk A tries last now) (i : QI A tries last now) (h : V3 A who id = 0) :
    ∃ H', CC F.jobs_Queue_Finish [.pointer (some ⟨bq, 0, none⟩), .int .i64 who, .int .i64 id] H = some (.int .i64 0, H') ∧ QR H' bq bm bk (delJ A id) tries last now ∧ UpQ H bq bm bk H' := by
  obtain ⟨j, hf, hs, hw, h1, h2⟩ := takenE_ok h
  obtain ⟨hj, hid⟩ := XG hf
  have m1 := q_Qtaken bq bm bk A tries last now who id j H ok r i hf hs hw h1 h2
  obtain ⟨H1, hH1⟩ : ∃ H1, H.push (.cells [.int .i64 0, .int .i64 0, .string (mk []), .int .i64 0, .int .i64 0, .int .i64 0, .int .i64 0] T.api_Job true) = H1 := ⟨_, rfl⟩
  obtain ⟨s1, n1, f1⟩ := YL hH1
  obtain ⟨H2, hH2⟩ : ∃ H2, H1.set H.n (.cells [.int .i64 j.id, .int .i64 j.prio, .string j.body, .int .i64 j.state, .int .i64 j.tries, .int .i64 j.who, .int .i64 j.til] T.api_Job true) = H2 := ⟨_, rfl⟩
  obtain ⟨s2, n2, f2, _⟩ := YG hH2
  have st : Yq H H2 := s1.then s2 fun b hb h => by omega
  have r2 := r.still st
  have fq := r2.f
  unfold Ul at fq
  obtain ⟨ents, es, e1, e2, e3⟩ := r2.keys
  obtain ⟨v, hl, hv⟩ := ZM Uv e1 e2 (k := id) (a := X0 j) (by rw [e3, hf]; rfl) false
  subst hv
  have hl : Xb Tryd.prog T.map_int_string (.map (some bk)) (.int .i64 id) false H2 = some (.string (X0 j)) := hl
  obtain ⟨H3, g1, g2, g3⟩ := q_delM bm (Q8 A) (X0 j) H2 (ok.fr st) r2.mdl i.a.srt (by rw [Q2]; have := i.len; omega)
  rw [getJ i.a hj] at g1
  rw [map_del i.a hj, hid] at g2
  have fq3 : H3.f bq = .cells [.pointer (some ⟨bm, 0, none⟩), .map (some bk), .int .i64 tries, .int .i64 last, .int .i64 now] T.jobs_Queue true := by rw [g3.fr.f r2.lt r2.nq]; exact fq
  have nq3 : ¬ MB H3 bm bq := fun h => by rcases g3.mb _ h with h | h; exact r2.nq h; have := r2.lt; omega
  have nk3 : ¬ MB H3 bm bk := fun h => by rcases g3.mb _ h with h | h; exact r2.nk h; have := r2.klt; omega
  have fk3 : H3.f bk = .map ents := by rw [g3.fr.f r2.klt r2.nk]; exact e1
  have dl := del_map Uv fk3 e2 id [T.int]
  obtain ⟨H4, hH4⟩ : ∃ H4, H3.set bk (.map (mdel ents ((kInt .i64).kv id))) = H4 := ⟨_, rfl⟩
  rw [hH4] at dl
  obtain ⟨s4, n4, f4, v4⟩ := YG hH4
  have hm4 := Z6 g2 s4 fun c hc h => nk3 (h ▸ hc)
  have n23 := g3.fr.n
  have rq : QR H4 bq bm bk (delJ A id) tries last now := by
    refine ⟨by rw [s4.f (by have := r2.lt; omega) r.qk]; exact fq3, by have := r2.lt; omega, by have := r2.klt; omega, hm4.1, ⟨_, Eng.delE es id, f4, e2.del (k := id), fun k => ?_⟩, fun h => nq3 (hm4.2 _ h), fun h => nk3 (hm4.2 _ h), r.qk⟩
    rw [lkp_del, e3]
    by_cases hk : id = k
    · rw [if_pos hk, ← hk]
      rcases Zt (A := delJ A id) id with h | ⟨o, h⟩
      · rw [h]; rfl
      · obtain ⟨h1, h2⟩ := XG h
        exact absurd h2 (Wb.1 h1).2
    · rw [if_neg hk]
      rcases Zt (A := A) k with h | ⟨o, h⟩
      · rw [h]
        rcases Zt (A := delJ A id) k with h' | ⟨o, h'⟩
        · rw [h']
        · obtain ⟨h1, h2⟩ := XG h'
          exact absurd h2 (fnd_none h o (Wb.1 h1).1)
      · obtain ⟨h1, h2⟩ := XG h
        have := Z7 (i.a.del id).inc (Wb.2 ⟨h1, fun e => hk (by rw [← e, h2])⟩)
        rw [h2] at this
        rw [h, this]
  have uq : UpQ H bq bm bk H4 := by
    refine UpQ.pre r st ⟨(g3.fr.mono (S' := QB H2 bq bm bk) fun _ _ h => .inr (.inr h)).then s4 fun b hb h => .inr (.inl h), fun c hc => ?_⟩
    exact g3.mb _ (hm4.2 c hc)
  refine ⟨H4, (Qw _ _ _ H (r := (.int .i64 0, H4)) ?_).trans (congrArg some (Uy r.klt (ok bk) (by rw [v4]; have := st.clk; have := g3.fr.clk; omega))), rq, uq⟩
  have dl' : YN Tryd.prog .delete [T.map_int_string, T.int] [.map (some bk), .int .i64 id] H3 = some (.val (.tuple #[]) H4) := by
    show both (QE Tryd.prog [T.map_int_string, T.int] (.map (some bk)) (.int .i64 id) H3) = _
    have dl : QE Tryd.prog [T.map_int_string, T.int] (.map (some bk)) (.int .i64 id) H3 = some (.tuple #[], H4) := dl
    rw [dl]; rfl
  simp (disch := first | with_reducible rfl | assumption | omega | rfl | (simp only [go_sem]; first | done | omega)) only [go_sem, ↓reduceIte, reduceCtorEq, Nat.reduceEqDiff, Nat.reduceAdd, Nat.reduceSub, Nat.reduceMul, Nat.reduceDiv, Nat.reduceMod, Nat.reduceLeDiff, Nat.reduceLT, Nat.reduceBEq, Int.reduceEq, Int.reduceBEq, Int.reduceBNe, Int.reduceLT, Int.reduceLE, Int.reduceAdd, Int.reduceSub, Int.reduceNeg, Int.reduceToNat, Int.reducePow, Nat.reducePow, Int.reduceMul, Int.reduceDiv, ↓XS, ↓Ya m1, Ya m1, hH1, f1, hH2, fq, hl, ↓Ya g1, Ya g1, fq3, dl']
end Go.Proofs.YtmiinbhnfojnbaaDoor
