/-
  11 texts in one (merge.py): Ca Cb Cc Cd Ce Cf Ci Cj ShDeltaOf DsDeltaOf Ck.
  Conditions: none. By an AI agent.
-/
import Derived.Test.YtlbieadnfgfhlaaQa4
import Derived.Test.YtlbieadnfgfhlaaChecked
import Derived.KernelRfl

/-
  Chapter 49: changes: what is allowed, what changes nothing, which lists are deltas.
  Conditions: none. By an AI agent.
-/
set_option maxRecDepth 10000
set_option linter.unusedSimpArgs false
set_option linter.unusedVariables false
namespace Go.Proofs.Ytlbieadnfgfhlaa
open Go Eng

/-- A change. -/
structure Cg where
  key : ByteArray
  was : Bool
  is : Bool
  before : ByteArray
  after : ByteArray
def ECg : Enc Cg := ⟨5, fun c => [.string c.key, .bool c.was, .bool c.is, .string c.before, .string c.after], fun _ => rfl, by decide, fun _ => rfl⟩
abbrev cgV (c : Cg) : Value := .agg #[.string c.key, .bool c.was, .bool c.is, .string c.before, .string c.after]
def cg0 : Cg := ⟨mk [], false, false, mk [], mk []⟩
abbrev cgB (c : Cg) : Blk := .cells [.string c.key, .bool c.was, .bool c.is, .string c.before, .string c.after] T.api_Change true
@[go_sem] theorem xload_Change {a : Value} {H : AHeap} : xload Try.prog T.api_Change a H = ldN 5 H a := by kernel_rfl

theorem cg_ext {a b : Cg} : a = b ↔ a.key = b.key ∧ a.was = b.was ∧ a.is = b.is ∧ a.before = b.before ∧ a.after = b.after := by
  constructor
  · rintro rfl; exact ⟨rfl, rfl, rfl, rfl, rfl⟩
  · intro ⟨h1, h2, h3, h4, h5⟩
    cases a; cases b
    simp only at h1 h2 h3 h4 h5
    subst h1 h2 h3 h4 h5
    rfl
instance : DecidableEq Cg := fun a b => decidable_of_iff _ cg_ext.symm

/-- What changes nothing. -/
def noneC (c : Cg) : Bool := (c.was == c.is) && decide (bl c.before = bl c.after)

@[go_sem] theorem bool_eqT {ox oy : Operand} {a b : Bool} : xbin Try.prog .eql T.bool ox oy (.bool a) (.bool b) = some (.bool (a == b)) := by kernel_rfl
@[go_sem] theorem bool_neT {ox oy : Operand} {a b : Bool} : xbin Try.prog .neq T.bool ox oy (.bool a) (.bool b) = some (.bool (a != b)) := by kernel_rfl
theorem q_none (c : Cg) (H : AHeap) : CC F.law_none [cgV c] H = some (.bool (noneC c), H) := by
  unfold noneC
  cases h : (c.was == c.is) with
  | true =>
    apply pure_of _ (d_law_none _ H) rfl
    rotate_left 2
    · simp (disch := first | with_reducible rfl | assumption | omega | rfl | (simp only [go_sem]; first | done | omega)) only [go_sem, ↓reduceIte, reduceCtorEq, Nat.reduceEqDiff, Nat.reduceAdd, Nat.reduceSub, Nat.reduceMul, Nat.reduceDiv, Nat.reduceMod, Nat.reduceLeDiff, Nat.reduceLT, Nat.reduceBEq, Int.reduceEq, Int.reduceBEq, Int.reduceBNe, Int.reduceLT, Int.reduceLE, Int.reduceAdd, Int.reduceSub, Int.reduceNeg, Int.reduceToNat, Int.reducePow, Nat.reducePow, Int.reduceMul, Int.reduceDiv, ↓s_law_none, h]
      rfl
    · (repeat (first | exact Fr.refl _ | refine Fr.push ?_ _ | refine Fr.set ?_ _ _ (by intro h; first | omega | (simp only [go_sem] at h; omega))))
  | false =>
    apply pure_of _ (d_law_none _ H) rfl
    rotate_left 2
    · simp (disch := first | with_reducible rfl | assumption | omega | rfl | (simp only [go_sem]; first | done | omega)) only [go_sem, ↓reduceIte, reduceCtorEq, Nat.reduceEqDiff, Nat.reduceAdd, Nat.reduceSub, Nat.reduceMul, Nat.reduceDiv, Nat.reduceMod, Nat.reduceLeDiff, Nat.reduceLT, Nat.reduceBEq, Int.reduceEq, Int.reduceBEq, Int.reduceBNe, Int.reduceLT, Int.reduceLE, Int.reduceAdd, Int.reduceSub, Int.reduceNeg, Int.reduceToNat, Int.reducePow, Nat.reducePow, Int.reduceMul, Int.reduceDiv, ↓s_law_none, h]
      rfl
    · (repeat (first | exact Fr.refl _ | refine Fr.push ?_ _ | refine Fr.set ?_ _ _ (by intro h; first | omega | (simp only [go_sem] at h; omega))))
theorem q_dsame (c : Cg) (H : AHeap) : CC F.delta_same [cgV c] H = some (.bool (noneC c), H) := by
  unfold noneC
  cases h : (c.was == c.is) with
  | true =>
    apply pure_of _ (d_delta_same _ H) rfl
    rotate_left 2
    · simp (disch := first | with_reducible rfl | assumption | omega | rfl | (simp only [go_sem]; first | done | omega)) only [go_sem, ↓reduceIte, reduceCtorEq, Nat.reduceEqDiff, Nat.reduceAdd, Nat.reduceSub, Nat.reduceMul, Nat.reduceDiv, Nat.reduceMod, Nat.reduceLeDiff, Nat.reduceLT, Nat.reduceBEq, Int.reduceEq, Int.reduceBEq, Int.reduceBNe, Int.reduceLT, Int.reduceLE, Int.reduceAdd, Int.reduceSub, Int.reduceNeg, Int.reduceToNat, Int.reducePow, Nat.reducePow, Int.reduceMul, Int.reduceDiv, ↓s_delta_same, h]
      rfl
    · (repeat (first | exact Fr.refl _ | refine Fr.push ?_ _ | refine Fr.set ?_ _ _ (by intro h; first | omega | (simp only [go_sem] at h; omega))))
  | false =>
    apply pure_of _ (d_delta_same _ H) rfl
    rotate_left 2
    · simp (disch := first | with_reducible rfl | assumption | omega | rfl | (simp only [go_sem]; first | done | omega)) only [go_sem, ↓reduceIte, reduceCtorEq, Nat.reduceEqDiff, Nat.reduceAdd, Nat.reduceSub, Nat.reduceMul, Nat.reduceDiv, Nat.reduceMod, Nat.reduceLeDiff, Nat.reduceLT, Nat.reduceBEq, Int.reduceEq, Int.reduceBEq, Int.reduceBNe, Int.reduceLT, Int.reduceLE, Int.reduceAdd, Int.reduceSub, Int.reduceNeg, Int.reduceToNat, Int.reducePow, Nat.reducePow, Int.reduceMul, Int.reduceDiv, ↓s_delta_same, h]
      rfl
    · (repeat (first | exact Fr.refl _ | refine Fr.push ?_ _ | refine Fr.set ?_ _ _ (by intro h; first | omega | (simp only [go_sem] at h; omega))))

theorem put_empty (a : Pr) : (putE [] a).1 = chk a.key [a.value] := by
  unfold putE
  split
  · rename_i h; rw [h]; rfl
  · rfl
theorem q_allowed (k v : ByteArray) (H : AHeap) (ok : Ok H) : CC F.delta_allowed [.string k, .string v] H = some (.bool (decide (chk k [v] = 0)), H) := by
  generalize hH1 : H.push (.cells [.slice none 0 0] T.model_Model true) = H1
  have s1 : Still H H1 := by rw [← hH1]; exact (Fr.refl H).push _
  have n1 : H1.n = H.n + 1 := by rw [← hH1]; rfl
  have f1 : H1.f H.n = .cells [.slice none 0 0] T.model_Model true := by rw [← hH1]; exact push_f_eq rfl
  have m1 : Mdl H1 H.n [] := ⟨_, f1, by omega, .inl ⟨rfl, rfl⟩, by simp [blockOf]⟩
  obtain ⟨H2, hput, m2, u2⟩ := q_putM H.n [] ⟨k, v⟩ H1 (ok.fr s1) m1 List.Pairwise.nil (by simp)
  rw [put_empty] at hput
  have hput : CC F.model_Model_Put [.pointer (some ⟨H.n, 0, none⟩), .string k, .string v] H1 = some (.int .i64 (chk k [v]), H2) := hput
  have s2 : Still H H2 := s1.still.then u2.fr fun c hc h => by
    rcases h with h | ⟨u, hu, hb⟩
    · omega
    · rw [f1] at hu; cases hu; cases hb
  generalize chk k [v] = e at hput ⊢
  apply pure_of _ (d_delta_allowed _ _ H) rfl
  rotate_left 2
  · simp (disch := first | with_reducible rfl | assumption | omega | rfl | (simp only [go_sem]; first | done | omega)) only [go_sem, ↓reduceIte, reduceCtorEq, Nat.reduceEqDiff, Nat.reduceAdd, Nat.reduceSub, Nat.reduceMul, Nat.reduceDiv, Nat.reduceMod, Nat.reduceLeDiff, Nat.reduceLT, Nat.reduceBEq, Int.reduceEq, Int.reduceBEq, Int.reduceBNe, Int.reduceLT, Int.reduceLE, Int.reduceAdd, Int.reduceSub, Int.reduceNeg, Int.reduceToNat, Int.reducePow, Nat.reducePow, Int.reduceMul, Int.reduceDiv, ↓s_delta_allowed, hH1, enterK_eq hput]
    rfl
  · exact s2

/-! ### Which lists are deltas -/
def okC (o : Option Cg) (c : Cg) : Bool :=
  decide (chk c.key [c.before] = 0) && (decide (chk c.key [c.after] = 0) && ((c.was || decide (bl c.before = [])) && ((c.is || decide (bl c.after = [])) && (!noneC c && (o.elim true fun p => decide (cmpS p.key c.key < 0))))))
def okL : Option Cg → List Cg → Bool
  | _, [] => true
  | o, c :: l => okC o c && okL (some c) l
def validC (l : List Cg) : Bool := decide (l.length ≤ 20000) && okL none l

theorem chk_len (k v : ByteArray) : chk k [v] = 0 ↔ ¬ ((bl k).length : Int) < 1 ∧ ¬ 24 < ((bl k).length : Int) ∧ ¬ 40 < ((bl v).length : Int) := by
  unfold chk
  have h0 : bl k = [] ↔ (bl k).length = 0 := List.length_eq_zero_iff.symm
  constructor
  · intro h
    split at h
    · cases h
    · rename_i h1
      rw [h0] at h1
      split at h
      · cases h
      · rename_i h2
        simp at h2
        omega
  · rintro ⟨h1, h2, h3⟩
    rw [if_neg (by rw [h0]; omega), if_neg]
    simp
    omega
theorem cmp_ge {a b : ByteArray} : (¬ cmpS a b < 0) ↔ 0 ≤ cmpS a b := by omega

end Go.Proofs.Ytlbieadnfgfhlaa

/-
  Chapter 49: which lists are deltas (printed by gen_valid.py).
  Conditions: none. By an AI agent.
-/
set_option maxRecDepth 10000
set_option linter.unusedSimpArgs false
set_option linter.unusedVariables false
namespace Go.Proofs.Ytlbieadnfgfhlaa
open Go Eng

theorem s_dValid_tt (l : List Cg) (v : Value) (H : AHeap) (ok : Ok H) (hr : Rd ECg H v l) (hl : l.length ≤ 1000000) (i : Nat) (h : i < l.length) (key before after : ByteArray) (hxa : l[i] = ⟨key, true, true, before, after⟩) (o : Option Cg) (ho : (if i = 0 then none else l[i - 1]?) = o) :
    ∃ H1, Still H H1 ∧ (okC o ⟨key, true, true, before, after⟩ = true → ∀ K : K, l_delta_Valid_0 v v (.int .i64 (l.length : Int)) (.int .i64 (i : Int)) H (blkK [] 0 K) = l_delta_Valid_0 v v (.int .i64 (l.length : Int)) (.int .i64 ((i + 1 : Nat) : Int)) H1 (blkK [] 0 K)) ∧
      (okC o ⟨key, true, true, before, after⟩ = false → ∀ K : K, l_delta_Valid_0 v v (.int .i64 (l.length : Int)) (.int .i64 (i : Int)) H (blkK [] 0 K) = K .ret [(2, .bool false)] H1) := by
  have hlt : (i : Int) < (l.length : Int) := by omega
  have hlen := hr.lenS
  obtain ⟨b1, o1, hix, hb1, hc1, _⟩ := hr.ix (q := .i64) h
  rw [hxa] at hc1
  have hix : ixS 5 v (.int .i64 i) = some (.pointer (some ⟨b1, o1, none⟩)) := hix
  have hc1 : cutB (H.f b1) o1 5 = some [.string key, .bool true, .bool true, .string before, .string after] := hc1
  generalize hH1 : (H.push (.cells [.string (mk []), .bool false, .bool false, .string (mk []), .string (mk [])] T.api_Change true)).set H.n (.cells [.string key, .bool true, .bool true, .string before, .string after] T.api_Change true) = H1
  have s1 : Still H H1 := by rw [← hH1]; exact Fr.set ((Fr.refl H).push _) _ _ (fun h => by omega)
  have f1 : H1.f H.n = .cells [.string key, .bool true, .bool true, .string before, .string after] T.api_Change true := by rw [← hH1]; exact set_f_eq
  have ok1 := ok.fr s1
  have hal1 := q_allowed key before H1 ok1
  have hal2 := q_allowed key after H1 ok1
  have hsm := q_dsame ⟨key, true, true, before, after⟩ H1
  by_cases e1 : chk key [before] = 0
  · by_cases e2 : chk key [after] = 0
    · cases e5 : noneC ⟨key, true, true, before, after⟩ with
      | true =>
        refine ⟨H1, s1, fun h => absurd h (by simp [okC, e1, e2, e5]), fun _ K => ?_⟩
        rw [r_delta_Valid_0]
        simp (disch := first | with_reducible rfl | assumption | omega | rfl | (simp only [go_sem]; first | done | omega)) only [go_sem, ↓reduceIte, reduceCtorEq, Nat.reduceEqDiff, Nat.reduceAdd, Nat.reduceSub, Nat.reduceMul, Nat.reduceDiv, Nat.reduceMod, Nat.reduceLeDiff, Nat.reduceLT, Nat.reduceBEq, Int.reduceEq, Int.reduceBEq, Int.reduceBNe, Int.reduceLT, Int.reduceLE, Int.reduceAdd, Int.reduceSub, Int.reduceNeg, Int.reduceToNat, Int.reducePow, Nat.reducePow, Int.reduceMul, Int.reduceDiv, ↓s_delta_Valid_b0, hlen, hlt, hix, hc1, hH1, f1, bl_mk, enterK_eq hal1, enterK_eq hal2, decide_eq_true e1, decide_eq_true e2, enterK_eq hsm, e5]
      | false =>
        cases i with
        | zero =>
          rw [if_pos rfl] at ho
          subst ho
          have hlt0 : (0 : Int) < (l.length : Int) := hlt
          have hix0 : ixS 5 v (.int .i64 0) = some (.pointer (some ⟨b1, o1, none⟩)) := hix
          refine ⟨H1, s1, fun _ K => ?_, fun h => absurd h (by simp [okC, e1, e2, e5])⟩
          rw [r_delta_Valid_0, Int.natCast_add]
          simp (disch := first | with_reducible rfl | assumption | omega | rfl | (simp only [go_sem]; first | done | omega)) only [go_sem, ↓reduceIte, reduceCtorEq, Nat.reduceEqDiff, Nat.reduceAdd, Nat.reduceSub, Nat.reduceMul, Nat.reduceDiv, Nat.reduceMod, Nat.reduceLeDiff, Nat.reduceLT, Nat.reduceBEq, Int.reduceEq, Int.reduceBEq, Int.reduceBNe, Int.reduceLT, Int.reduceLE, Int.reduceAdd, Int.reduceSub, Int.reduceNeg, Int.reduceToNat, Int.reducePow, Nat.reducePow, Int.reduceMul, Int.reduceDiv, ↓s_delta_Valid_b0, hlen, hlt, hix, hc1, hH1, f1, bl_mk, enterK_eq hal1, enterK_eq hal2, decide_eq_true e1, decide_eq_true e2, enterK_eq hsm, e5, Int.natCast_zero, hlt0, hix0]
        | succ j =>
          have hj : j < l.length := by omega
          rw [if_neg (by omega), Nat.add_sub_cancel, List.getElem?_eq_getElem hj] at ho
          subst ho
          obtain ⟨b2, o2, hix2, _, hc2, _⟩ := (hr.still s1).ix (q := .i64) hj
          have hix2 : ixS 5 v (.int .i64 j) = some (.pointer (some ⟨b2, o2, none⟩)) := hix2
          have hk2 : cellB (H1.f b2) o2 = some (.string l[j].key) := cutB_cell hc2 (i := 0) (by decide)
          have hpos : (0 : Int) < (j : Int) + 1 := by omega
          have hsub : (j : Int) + 1 - 1 = (j : Int) := by omega
          have hlt1 : (j : Int) + 1 < (l.length : Int) := by omega
          have hix1 : ixS 5 v (.int .i64 ((j : Int) + 1)) = some (.pointer (some ⟨b1, o1, none⟩)) := hix
          by_cases e6 : cmpS l[j].key key < 0
          · refine ⟨H1, s1, fun _ K => ?_, fun h => absurd h (by simp [okC, e1, e2, e5, e6])⟩
            rw [r_delta_Valid_0, Int.natCast_add]
            simp (disch := first | with_reducible rfl | assumption | omega | rfl | (simp only [go_sem]; first | done | omega)) only [go_sem, ↓reduceIte, reduceCtorEq, Nat.reduceEqDiff, Nat.reduceAdd, Nat.reduceSub, Nat.reduceMul, Nat.reduceDiv, Nat.reduceMod, Nat.reduceLeDiff, Nat.reduceLT, Nat.reduceBEq, Int.reduceEq, Int.reduceBEq, Int.reduceBNe, Int.reduceLT, Int.reduceLE, Int.reduceAdd, Int.reduceSub, Int.reduceNeg, Int.reduceToNat, Int.reducePow, Nat.reducePow, Int.reduceMul, Int.reduceDiv, ↓s_delta_Valid_b0, hlen, hlt, hix, hc1, hH1, f1, bl_mk, enterK_eq hal1, enterK_eq hal2, decide_eq_true e1, decide_eq_true e2, enterK_eq hsm, e5, Int.natCast_add, hlt1, hix1, decide_eq_true hpos, hsub, hix2, hk2, less_cmpS, decide_eq_true e6]
          · refine ⟨H1, s1, fun h => absurd h (by simp [okC, e1, e2, e5, e6]), fun _ K => ?_⟩
            rw [r_delta_Valid_0]
            simp (disch := first | with_reducible rfl | assumption | omega | rfl | (simp only [go_sem]; first | done | omega)) only [go_sem, ↓reduceIte, reduceCtorEq, Nat.reduceEqDiff, Nat.reduceAdd, Nat.reduceSub, Nat.reduceMul, Nat.reduceDiv, Nat.reduceMod, Nat.reduceLeDiff, Nat.reduceLT, Nat.reduceBEq, Int.reduceEq, Int.reduceBEq, Int.reduceBNe, Int.reduceLT, Int.reduceLE, Int.reduceAdd, Int.reduceSub, Int.reduceNeg, Int.reduceToNat, Int.reducePow, Nat.reducePow, Int.reduceMul, Int.reduceDiv, ↓s_delta_Valid_b0, hlen, hlt, hix, hc1, hH1, f1, bl_mk, enterK_eq hal1, enterK_eq hal2, decide_eq_true e1, decide_eq_true e2, enterK_eq hsm, e5, Int.natCast_add, hlt1, hix1, decide_eq_true hpos, hsub, hix2, hk2, less_cmpS, decide_eq_false e6]
    · refine ⟨H1, s1, fun h => absurd h (by simp [okC, e1, e2]), fun _ K => ?_⟩
      rw [r_delta_Valid_0]
      simp (disch := first | with_reducible rfl | assumption | omega | rfl | (simp only [go_sem]; first | done | omega)) only [go_sem, ↓reduceIte, reduceCtorEq, Nat.reduceEqDiff, Nat.reduceAdd, Nat.reduceSub, Nat.reduceMul, Nat.reduceDiv, Nat.reduceMod, Nat.reduceLeDiff, Nat.reduceLT, Nat.reduceBEq, Int.reduceEq, Int.reduceBEq, Int.reduceBNe, Int.reduceLT, Int.reduceLE, Int.reduceAdd, Int.reduceSub, Int.reduceNeg, Int.reduceToNat, Int.reducePow, Nat.reducePow, Int.reduceMul, Int.reduceDiv, ↓s_delta_Valid_b0, hlen, hlt, hix, hc1, hH1, f1, bl_mk, enterK_eq hal1, enterK_eq hal2, decide_eq_true e1, decide_eq_false e2]
  · refine ⟨H1, s1, fun h => absurd h (by simp [okC, e1]), fun _ K => ?_⟩
    rw [r_delta_Valid_0]
    simp (disch := first | with_reducible rfl | assumption | omega | rfl | (simp only [go_sem]; first | done | omega)) only [go_sem, ↓reduceIte, reduceCtorEq, Nat.reduceEqDiff, Nat.reduceAdd, Nat.reduceSub, Nat.reduceMul, Nat.reduceDiv, Nat.reduceMod, Nat.reduceLeDiff, Nat.reduceLT, Nat.reduceBEq, Int.reduceEq, Int.reduceBEq, Int.reduceBNe, Int.reduceLT, Int.reduceLE, Int.reduceAdd, Int.reduceSub, Int.reduceNeg, Int.reduceToNat, Int.reducePow, Nat.reducePow, Int.reduceMul, Int.reduceDiv, ↓s_delta_Valid_b0, hlen, hlt, hix, hc1, hH1, f1, bl_mk, enterK_eq hal1, enterK_eq hal2, decide_eq_false e1]
theorem s_dValid_tf (l : List Cg) (v : Value) (H : AHeap) (ok : Ok H) (hr : Rd ECg H v l) (hl : l.length ≤ 1000000) (i : Nat) (h : i < l.length) (key before after : ByteArray) (hxa : l[i] = ⟨key, true, false, before, after⟩) (o : Option Cg) (ho : (if i = 0 then none else l[i - 1]?) = o) :
    ∃ H1, Still H H1 ∧ (okC o ⟨key, true, false, before, after⟩ = true → ∀ K : K, l_delta_Valid_0 v v (.int .i64 (l.length : Int)) (.int .i64 (i : Int)) H (blkK [] 0 K) = l_delta_Valid_0 v v (.int .i64 (l.length : Int)) (.int .i64 ((i + 1 : Nat) : Int)) H1 (blkK [] 0 K)) ∧
      (okC o ⟨key, true, false, before, after⟩ = false → ∀ K : K, l_delta_Valid_0 v v (.int .i64 (l.length : Int)) (.int .i64 (i : Int)) H (blkK [] 0 K) = K .ret [(2, .bool false)] H1) := by
  have hlt : (i : Int) < (l.length : Int) := by omega
  have hlen := hr.lenS
  obtain ⟨b1, o1, hix, hb1, hc1, _⟩ := hr.ix (q := .i64) h
  rw [hxa] at hc1
  have hix : ixS 5 v (.int .i64 i) = some (.pointer (some ⟨b1, o1, none⟩)) := hix
  have hc1 : cutB (H.f b1) o1 5 = some [.string key, .bool true, .bool false, .string before, .string after] := hc1
  generalize hH1 : (H.push (.cells [.string (mk []), .bool false, .bool false, .string (mk []), .string (mk [])] T.api_Change true)).set H.n (.cells [.string key, .bool true, .bool false, .string before, .string after] T.api_Change true) = H1
  have s1 : Still H H1 := by rw [← hH1]; exact Fr.set ((Fr.refl H).push _) _ _ (fun h => by omega)
  have f1 : H1.f H.n = .cells [.string key, .bool true, .bool false, .string before, .string after] T.api_Change true := by rw [← hH1]; exact set_f_eq
  have ok1 := ok.fr s1
  have hal1 := q_allowed key before H1 ok1
  have hal2 := q_allowed key after H1 ok1
  have hsm := q_dsame ⟨key, true, false, before, after⟩ H1
  by_cases e1 : chk key [before] = 0
  · by_cases e2 : chk key [after] = 0
    · by_cases e4 : bl after = []
      · cases e5 : noneC ⟨key, true, false, before, after⟩ with
        | true =>
          refine ⟨H1, s1, fun h => absurd h (by simp [okC, e1, e2, e4, e5]), fun _ K => ?_⟩
          rw [r_delta_Valid_0]
          simp (disch := first | with_reducible rfl | assumption | omega | rfl | (simp only [go_sem]; first | done | omega)) only [go_sem, ↓reduceIte, reduceCtorEq, Nat.reduceEqDiff, Nat.reduceAdd, Nat.reduceSub, Nat.reduceMul, Nat.reduceDiv, Nat.reduceMod, Nat.reduceLeDiff, Nat.reduceLT, Nat.reduceBEq, Int.reduceEq, Int.reduceBEq, Int.reduceBNe, Int.reduceLT, Int.reduceLE, Int.reduceAdd, Int.reduceSub, Int.reduceNeg, Int.reduceToNat, Int.reducePow, Nat.reducePow, Int.reduceMul, Int.reduceDiv, ↓s_delta_Valid_b0, hlen, hlt, hix, hc1, hH1, f1, bl_mk, enterK_eq hal1, enterK_eq hal2, decide_eq_true e1, decide_eq_true e2, decide_eq_true e4, enterK_eq hsm, e5]
        | false =>
          cases i with
          | zero =>
            rw [if_pos rfl] at ho
            subst ho
            have hlt0 : (0 : Int) < (l.length : Int) := hlt
            have hix0 : ixS 5 v (.int .i64 0) = some (.pointer (some ⟨b1, o1, none⟩)) := hix
            refine ⟨H1, s1, fun _ K => ?_, fun h => absurd h (by simp [okC, e1, e2, e4, e5])⟩
            rw [r_delta_Valid_0, Int.natCast_add]
            simp (disch := first | with_reducible rfl | assumption | omega | rfl | (simp only [go_sem]; first | done | omega)) only [go_sem, ↓reduceIte, reduceCtorEq, Nat.reduceEqDiff, Nat.reduceAdd, Nat.reduceSub, Nat.reduceMul, Nat.reduceDiv, Nat.reduceMod, Nat.reduceLeDiff, Nat.reduceLT, Nat.reduceBEq, Int.reduceEq, Int.reduceBEq, Int.reduceBNe, Int.reduceLT, Int.reduceLE, Int.reduceAdd, Int.reduceSub, Int.reduceNeg, Int.reduceToNat, Int.reducePow, Nat.reducePow, Int.reduceMul, Int.reduceDiv, ↓s_delta_Valid_b0, hlen, hlt, hix, hc1, hH1, f1, bl_mk, enterK_eq hal1, enterK_eq hal2, decide_eq_true e1, decide_eq_true e2, decide_eq_true e4, enterK_eq hsm, e5, Int.natCast_zero, hlt0, hix0]
          | succ j =>
            have hj : j < l.length := by omega
            rw [if_neg (by omega), Nat.add_sub_cancel, List.getElem?_eq_getElem hj] at ho
            subst ho
            obtain ⟨b2, o2, hix2, _, hc2, _⟩ := (hr.still s1).ix (q := .i64) hj
            have hix2 : ixS 5 v (.int .i64 j) = some (.pointer (some ⟨b2, o2, none⟩)) := hix2
            have hk2 : cellB (H1.f b2) o2 = some (.string l[j].key) := cutB_cell hc2 (i := 0) (by decide)
            have hpos : (0 : Int) < (j : Int) + 1 := by omega
            have hsub : (j : Int) + 1 - 1 = (j : Int) := by omega
            have hlt1 : (j : Int) + 1 < (l.length : Int) := by omega
            have hix1 : ixS 5 v (.int .i64 ((j : Int) + 1)) = some (.pointer (some ⟨b1, o1, none⟩)) := hix
            by_cases e6 : cmpS l[j].key key < 0
            · refine ⟨H1, s1, fun _ K => ?_, fun h => absurd h (by simp [okC, e1, e2, e4, e5, e6])⟩
              rw [r_delta_Valid_0, Int.natCast_add]
              simp (disch := first | with_reducible rfl | assumption | omega | rfl | (simp only [go_sem]; first | done | omega)) only [go_sem, ↓reduceIte, reduceCtorEq, Nat.reduceEqDiff, Nat.reduceAdd, Nat.reduceSub, Nat.reduceMul, Nat.reduceDiv, Nat.reduceMod, Nat.reduceLeDiff, Nat.reduceLT, Nat.reduceBEq, Int.reduceEq, Int.reduceBEq, Int.reduceBNe, Int.reduceLT, Int.reduceLE, Int.reduceAdd, Int.reduceSub, Int.reduceNeg, Int.reduceToNat, Int.reducePow, Nat.reducePow, Int.reduceMul, Int.reduceDiv, ↓s_delta_Valid_b0, hlen, hlt, hix, hc1, hH1, f1, bl_mk, enterK_eq hal1, enterK_eq hal2, decide_eq_true e1, decide_eq_true e2, decide_eq_true e4, enterK_eq hsm, e5, Int.natCast_add, hlt1, hix1, decide_eq_true hpos, hsub, hix2, hk2, less_cmpS, decide_eq_true e6]
            · refine ⟨H1, s1, fun h => absurd h (by simp [okC, e1, e2, e4, e5, e6]), fun _ K => ?_⟩
              rw [r_delta_Valid_0]
              simp (disch := first | with_reducible rfl | assumption | omega | rfl | (simp only [go_sem]; first | done | omega)) only [go_sem, ↓reduceIte, reduceCtorEq, Nat.reduceEqDiff, Nat.reduceAdd, Nat.reduceSub, Nat.reduceMul, Nat.reduceDiv, Nat.reduceMod, Nat.reduceLeDiff, Nat.reduceLT, Nat.reduceBEq, Int.reduceEq, Int.reduceBEq, Int.reduceBNe, Int.reduceLT, Int.reduceLE, Int.reduceAdd, Int.reduceSub, Int.reduceNeg, Int.reduceToNat, Int.reducePow, Nat.reducePow, Int.reduceMul, Int.reduceDiv, ↓s_delta_Valid_b0, hlen, hlt, hix, hc1, hH1, f1, bl_mk, enterK_eq hal1, enterK_eq hal2, decide_eq_true e1, decide_eq_true e2, decide_eq_true e4, enterK_eq hsm, e5, Int.natCast_add, hlt1, hix1, decide_eq_true hpos, hsub, hix2, hk2, less_cmpS, decide_eq_false e6]
      · refine ⟨H1, s1, fun h => absurd h (by simp [okC, e1, e2, e4]), fun _ K => ?_⟩
        rw [r_delta_Valid_0]
        simp (disch := first | with_reducible rfl | assumption | omega | rfl | (simp only [go_sem]; first | done | omega)) only [go_sem, ↓reduceIte, reduceCtorEq, Nat.reduceEqDiff, Nat.reduceAdd, Nat.reduceSub, Nat.reduceMul, Nat.reduceDiv, Nat.reduceMod, Nat.reduceLeDiff, Nat.reduceLT, Nat.reduceBEq, Int.reduceEq, Int.reduceBEq, Int.reduceBNe, Int.reduceLT, Int.reduceLE, Int.reduceAdd, Int.reduceSub, Int.reduceNeg, Int.reduceToNat, Int.reducePow, Nat.reducePow, Int.reduceMul, Int.reduceDiv, ↓s_delta_Valid_b0, hlen, hlt, hix, hc1, hH1, f1, bl_mk, enterK_eq hal1, enterK_eq hal2, decide_eq_true e1, decide_eq_true e2, decide_eq_false e4]
    · refine ⟨H1, s1, fun h => absurd h (by simp [okC, e1, e2]), fun _ K => ?_⟩
      rw [r_delta_Valid_0]
      simp (disch := first | with_reducible rfl | assumption | omega | rfl | (simp only [go_sem]; first | done | omega)) only [go_sem, ↓reduceIte, reduceCtorEq, Nat.reduceEqDiff, Nat.reduceAdd, Nat.reduceSub, Nat.reduceMul, Nat.reduceDiv, Nat.reduceMod, Nat.reduceLeDiff, Nat.reduceLT, Nat.reduceBEq, Int.reduceEq, Int.reduceBEq, Int.reduceBNe, Int.reduceLT, Int.reduceLE, Int.reduceAdd, Int.reduceSub, Int.reduceNeg, Int.reduceToNat, Int.reducePow, Nat.reducePow, Int.reduceMul, Int.reduceDiv, ↓s_delta_Valid_b0, hlen, hlt, hix, hc1, hH1, f1, bl_mk, enterK_eq hal1, enterK_eq hal2, decide_eq_true e1, decide_eq_false e2]
  · refine ⟨H1, s1, fun h => absurd h (by simp [okC, e1]), fun _ K => ?_⟩
    rw [r_delta_Valid_0]
    simp (disch := first | with_reducible rfl | assumption | omega | rfl | (simp only [go_sem]; first | done | omega)) only [go_sem, ↓reduceIte, reduceCtorEq, Nat.reduceEqDiff, Nat.reduceAdd, Nat.reduceSub, Nat.reduceMul, Nat.reduceDiv, Nat.reduceMod, Nat.reduceLeDiff, Nat.reduceLT, Nat.reduceBEq, Int.reduceEq, Int.reduceBEq, Int.reduceBNe, Int.reduceLT, Int.reduceLE, Int.reduceAdd, Int.reduceSub, Int.reduceNeg, Int.reduceToNat, Int.reducePow, Nat.reducePow, Int.reduceMul, Int.reduceDiv, ↓s_delta_Valid_b0, hlen, hlt, hix, hc1, hH1, f1, bl_mk, enterK_eq hal1, enterK_eq hal2, decide_eq_false e1]
theorem s_dValid_ft (l : List Cg) (v : Value) (H : AHeap) (ok : Ok H) (hr : Rd ECg H v l) (hl : l.length ≤ 1000000) (i : Nat) (h : i < l.length) (key before after : ByteArray) (hxa : l[i] = ⟨key, false, true, before, after⟩) (o : Option Cg) (ho : (if i = 0 then none else l[i - 1]?) = o) :
    ∃ H1, Still H H1 ∧ (okC o ⟨key, false, true, before, after⟩ = true → ∀ K : K, l_delta_Valid_0 v v (.int .i64 (l.length : Int)) (.int .i64 (i : Int)) H (blkK [] 0 K) = l_delta_Valid_0 v v (.int .i64 (l.length : Int)) (.int .i64 ((i + 1 : Nat) : Int)) H1 (blkK [] 0 K)) ∧
      (okC o ⟨key, false, true, before, after⟩ = false → ∀ K : K, l_delta_Valid_0 v v (.int .i64 (l.length : Int)) (.int .i64 (i : Int)) H (blkK [] 0 K) = K .ret [(2, .bool false)] H1) := by
  have hlt : (i : Int) < (l.length : Int) := by omega
  have hlen := hr.lenS
  obtain ⟨b1, o1, hix, hb1, hc1, _⟩ := hr.ix (q := .i64) h
  rw [hxa] at hc1
  have hix : ixS 5 v (.int .i64 i) = some (.pointer (some ⟨b1, o1, none⟩)) := hix
  have hc1 : cutB (H.f b1) o1 5 = some [.string key, .bool false, .bool true, .string before, .string after] := hc1
  generalize hH1 : (H.push (.cells [.string (mk []), .bool false, .bool false, .string (mk []), .string (mk [])] T.api_Change true)).set H.n (.cells [.string key, .bool false, .bool true, .string before, .string after] T.api_Change true) = H1
  have s1 : Still H H1 := by rw [← hH1]; exact Fr.set ((Fr.refl H).push _) _ _ (fun h => by omega)
  have f1 : H1.f H.n = .cells [.string key, .bool false, .bool true, .string before, .string after] T.api_Change true := by rw [← hH1]; exact set_f_eq
  have ok1 := ok.fr s1
  have hal1 := q_allowed key before H1 ok1
  have hal2 := q_allowed key after H1 ok1
  have hsm := q_dsame ⟨key, false, true, before, after⟩ H1
  by_cases e1 : chk key [before] = 0
  · by_cases e2 : chk key [after] = 0
    · by_cases e3 : bl before = []
      · cases e5 : noneC ⟨key, false, true, before, after⟩ with
        | true =>
          refine ⟨H1, s1, fun h => absurd h (by simp [okC, e1, e2, e3, e5]), fun _ K => ?_⟩
          rw [r_delta_Valid_0]
          simp (disch := first | with_reducible rfl | assumption | omega | rfl | (simp only [go_sem]; first | done | omega)) only [go_sem, ↓reduceIte, reduceCtorEq, Nat.reduceEqDiff, Nat.reduceAdd, Nat.reduceSub, Nat.reduceMul, Nat.reduceDiv, Nat.reduceMod, Nat.reduceLeDiff, Nat.reduceLT, Nat.reduceBEq, Int.reduceEq, Int.reduceBEq, Int.reduceBNe, Int.reduceLT, Int.reduceLE, Int.reduceAdd, Int.reduceSub, Int.reduceNeg, Int.reduceToNat, Int.reducePow, Nat.reducePow, Int.reduceMul, Int.reduceDiv, ↓s_delta_Valid_b0, hlen, hlt, hix, hc1, hH1, f1, bl_mk, enterK_eq hal1, enterK_eq hal2, decide_eq_true e1, decide_eq_true e2, decide_eq_true e3, enterK_eq hsm, e5]
        | false =>
          cases i with
          | zero =>
            rw [if_pos rfl] at ho
            subst ho
            have hlt0 : (0 : Int) < (l.length : Int) := hlt
            have hix0 : ixS 5 v (.int .i64 0) = some (.pointer (some ⟨b1, o1, none⟩)) := hix
            refine ⟨H1, s1, fun _ K => ?_, fun h => absurd h (by simp [okC, e1, e2, e3, e5])⟩
            rw [r_delta_Valid_0, Int.natCast_add]
            simp (disch := first | with_reducible rfl | assumption | omega | rfl | (simp only [go_sem]; first | done | omega)) only [go_sem, ↓reduceIte, reduceCtorEq, Nat.reduceEqDiff, Nat.reduceAdd, Nat.reduceSub, Nat.reduceMul, Nat.reduceDiv, Nat.reduceMod, Nat.reduceLeDiff, Nat.reduceLT, Nat.reduceBEq, Int.reduceEq, Int.reduceBEq, Int.reduceBNe, Int.reduceLT, Int.reduceLE, Int.reduceAdd, Int.reduceSub, Int.reduceNeg, Int.reduceToNat, Int.reducePow, Nat.reducePow, Int.reduceMul, Int.reduceDiv, ↓s_delta_Valid_b0, hlen, hlt, hix, hc1, hH1, f1, bl_mk, enterK_eq hal1, enterK_eq hal2, decide_eq_true e1, decide_eq_true e2, decide_eq_true e3, enterK_eq hsm, e5, Int.natCast_zero, hlt0, hix0]
          | succ j =>
            have hj : j < l.length := by omega
            rw [if_neg (by omega), Nat.add_sub_cancel, List.getElem?_eq_getElem hj] at ho
            subst ho
            obtain ⟨b2, o2, hix2, _, hc2, _⟩ := (hr.still s1).ix (q := .i64) hj
            have hix2 : ixS 5 v (.int .i64 j) = some (.pointer (some ⟨b2, o2, none⟩)) := hix2
            have hk2 : cellB (H1.f b2) o2 = some (.string l[j].key) := cutB_cell hc2 (i := 0) (by decide)
            have hpos : (0 : Int) < (j : Int) + 1 := by omega
            have hsub : (j : Int) + 1 - 1 = (j : Int) := by omega
            have hlt1 : (j : Int) + 1 < (l.length : Int) := by omega
            have hix1 : ixS 5 v (.int .i64 ((j : Int) + 1)) = some (.pointer (some ⟨b1, o1, none⟩)) := hix
            by_cases e6 : cmpS l[j].key key < 0
            · refine ⟨H1, s1, fun _ K => ?_, fun h => absurd h (by simp [okC, e1, e2, e3, e5, e6])⟩
              rw [r_delta_Valid_0, Int.natCast_add]
              simp (disch := first | with_reducible rfl | assumption | omega | rfl | (simp only [go_sem]; first | done | omega)) only [go_sem, ↓reduceIte, reduceCtorEq, Nat.reduceEqDiff, Nat.reduceAdd, Nat.reduceSub, Nat.reduceMul, Nat.reduceDiv, Nat.reduceMod, Nat.reduceLeDiff, Nat.reduceLT, Nat.reduceBEq, Int.reduceEq, Int.reduceBEq, Int.reduceBNe, Int.reduceLT, Int.reduceLE, Int.reduceAdd, Int.reduceSub, Int.reduceNeg, Int.reduceToNat, Int.reducePow, Nat.reducePow, Int.reduceMul, Int.reduceDiv, ↓s_delta_Valid_b0, hlen, hlt, hix, hc1, hH1, f1, bl_mk, enterK_eq hal1, enterK_eq hal2, decide_eq_true e1, decide_eq_true e2, decide_eq_true e3, enterK_eq hsm, e5, Int.natCast_add, hlt1, hix1, decide_eq_true hpos, hsub, hix2, hk2, less_cmpS, decide_eq_true e6]
            · refine ⟨H1, s1, fun h => absurd h (by simp [okC, e1, e2, e3, e5, e6]), fun _ K => ?_⟩
              rw [r_delta_Valid_0]
              simp (disch := first | with_reducible rfl | assumption | omega | rfl | (simp only [go_sem]; first | done | omega)) only [go_sem, ↓reduceIte, reduceCtorEq, Nat.reduceEqDiff, Nat.reduceAdd, Nat.reduceSub, Nat.reduceMul, Nat.reduceDiv, Nat.reduceMod, Nat.reduceLeDiff, Nat.reduceLT, Nat.reduceBEq, Int.reduceEq, Int.reduceBEq, Int.reduceBNe, Int.reduceLT, Int.reduceLE, Int.reduceAdd, Int.reduceSub, Int.reduceNeg, Int.reduceToNat, Int.reducePow, Nat.reducePow, Int.reduceMul, Int.reduceDiv, ↓s_delta_Valid_b0, hlen, hlt, hix, hc1, hH1, f1, bl_mk, enterK_eq hal1, enterK_eq hal2, decide_eq_true e1, decide_eq_true e2, decide_eq_true e3, enterK_eq hsm, e5, Int.natCast_add, hlt1, hix1, decide_eq_true hpos, hsub, hix2, hk2, less_cmpS, decide_eq_false e6]
      · refine ⟨H1, s1, fun h => absurd h (by simp [okC, e1, e2, e3]), fun _ K => ?_⟩
        rw [r_delta_Valid_0]
        simp (disch := first | with_reducible rfl | assumption | omega | rfl | (simp only [go_sem]; first | done | omega)) only [go_sem, ↓reduceIte, reduceCtorEq, Nat.reduceEqDiff, Nat.reduceAdd, Nat.reduceSub, Nat.reduceMul, Nat.reduceDiv, Nat.reduceMod, Nat.reduceLeDiff, Nat.reduceLT, Nat.reduceBEq, Int.reduceEq, Int.reduceBEq, Int.reduceBNe, Int.reduceLT, Int.reduceLE, Int.reduceAdd, Int.reduceSub, Int.reduceNeg, Int.reduceToNat, Int.reducePow, Nat.reducePow, Int.reduceMul, Int.reduceDiv, ↓s_delta_Valid_b0, hlen, hlt, hix, hc1, hH1, f1, bl_mk, enterK_eq hal1, enterK_eq hal2, decide_eq_true e1, decide_eq_true e2, decide_eq_false e3]
    · refine ⟨H1, s1, fun h => absurd h (by simp [okC, e1, e2]), fun _ K => ?_⟩
      rw [r_delta_Valid_0]
      simp (disch := first | with_reducible rfl | assumption | omega | rfl | (simp only [go_sem]; first | done | omega)) only [go_sem, ↓reduceIte, reduceCtorEq, Nat.reduceEqDiff, Nat.reduceAdd, Nat.reduceSub, Nat.reduceMul, Nat.reduceDiv, Nat.reduceMod, Nat.reduceLeDiff, Nat.reduceLT, Nat.reduceBEq, Int.reduceEq, Int.reduceBEq, Int.reduceBNe, Int.reduceLT, Int.reduceLE, Int.reduceAdd, Int.reduceSub, Int.reduceNeg, Int.reduceToNat, Int.reducePow, Nat.reducePow, Int.reduceMul, Int.reduceDiv, ↓s_delta_Valid_b0, hlen, hlt, hix, hc1, hH1, f1, bl_mk, enterK_eq hal1, enterK_eq hal2, decide_eq_true e1, decide_eq_false e2]
  · refine ⟨H1, s1, fun h => absurd h (by simp [okC, e1]), fun _ K => ?_⟩
    rw [r_delta_Valid_0]
    simp (disch := first | with_reducible rfl | assumption | omega | rfl | (simp only [go_sem]; first | done | omega)) only [go_sem, ↓reduceIte, reduceCtorEq, Nat.reduceEqDiff, Nat.reduceAdd, Nat.reduceSub, Nat.reduceMul, Nat.reduceDiv, Nat.reduceMod, Nat.reduceLeDiff, Nat.reduceLT, Nat.reduceBEq, Int.reduceEq, Int.reduceBEq, Int.reduceBNe, Int.reduceLT, Int.reduceLE, Int.reduceAdd, Int.reduceSub, Int.reduceNeg, Int.reduceToNat, Int.reducePow, Nat.reducePow, Int.reduceMul, Int.reduceDiv, ↓s_delta_Valid_b0, hlen, hlt, hix, hc1, hH1, f1, bl_mk, enterK_eq hal1, enterK_eq hal2, decide_eq_false e1]
theorem s_dValid_ff (l : List Cg) (v : Value) (H : AHeap) (ok : Ok H) (hr : Rd ECg H v l) (hl : l.length ≤ 1000000) (i : Nat) (h : i < l.length) (key before after : ByteArray) (hxa : l[i] = ⟨key, false, false, before, after⟩) (o : Option Cg) (ho : (if i = 0 then none else l[i - 1]?) = o) :
    ∃ H1, Still H H1 ∧ (okC o ⟨key, false, false, before, after⟩ = true → ∀ K : K, l_delta_Valid_0 v v (.int .i64 (l.length : Int)) (.int .i64 (i : Int)) H (blkK [] 0 K) = l_delta_Valid_0 v v (.int .i64 (l.length : Int)) (.int .i64 ((i + 1 : Nat) : Int)) H1 (blkK [] 0 K)) ∧
      (okC o ⟨key, false, false, before, after⟩ = false → ∀ K : K, l_delta_Valid_0 v v (.int .i64 (l.length : Int)) (.int .i64 (i : Int)) H (blkK [] 0 K) = K .ret [(2, .bool false)] H1) := by
  have hlt : (i : Int) < (l.length : Int) := by omega
  have hlen := hr.lenS
  obtain ⟨b1, o1, hix, hb1, hc1, _⟩ := hr.ix (q := .i64) h
  rw [hxa] at hc1
  have hix : ixS 5 v (.int .i64 i) = some (.pointer (some ⟨b1, o1, none⟩)) := hix
  have hc1 : cutB (H.f b1) o1 5 = some [.string key, .bool false, .bool false, .string before, .string after] := hc1
  generalize hH1 : (H.push (.cells [.string (mk []), .bool false, .bool false, .string (mk []), .string (mk [])] T.api_Change true)).set H.n (.cells [.string key, .bool false, .bool false, .string before, .string after] T.api_Change true) = H1
  have s1 : Still H H1 := by rw [← hH1]; exact Fr.set ((Fr.refl H).push _) _ _ (fun h => by omega)
  have f1 : H1.f H.n = .cells [.string key, .bool false, .bool false, .string before, .string after] T.api_Change true := by rw [← hH1]; exact set_f_eq
  have ok1 := ok.fr s1
  have hal1 := q_allowed key before H1 ok1
  have hal2 := q_allowed key after H1 ok1
  have hsm := q_dsame ⟨key, false, false, before, after⟩ H1
  by_cases e1 : chk key [before] = 0
  · by_cases e2 : chk key [after] = 0
    · by_cases e3 : bl before = []
      · by_cases e4 : bl after = []
        · cases e5 : noneC ⟨key, false, false, before, after⟩ with
          | true =>
            refine ⟨H1, s1, fun h => absurd h (by simp [okC, e1, e2, e3, e4, e5]), fun _ K => ?_⟩
            rw [r_delta_Valid_0]
            simp (disch := first | with_reducible rfl | assumption | omega | rfl | (simp only [go_sem]; first | done | omega)) only [go_sem, ↓reduceIte, reduceCtorEq, Nat.reduceEqDiff, Nat.reduceAdd, Nat.reduceSub, Nat.reduceMul, Nat.reduceDiv, Nat.reduceMod, Nat.reduceLeDiff, Nat.reduceLT, Nat.reduceBEq, Int.reduceEq, Int.reduceBEq, Int.reduceBNe, Int.reduceLT, Int.reduceLE, Int.reduceAdd, Int.reduceSub, Int.reduceNeg, Int.reduceToNat, Int.reducePow, Nat.reducePow, Int.reduceMul, Int.reduceDiv, ↓s_delta_Valid_b0, hlen, hlt, hix, hc1, hH1, f1, bl_mk, enterK_eq hal1, enterK_eq hal2, decide_eq_true e1, decide_eq_true e2, decide_eq_true e3, decide_eq_true e4, enterK_eq hsm, e5]
          | false =>
            cases i with
            | zero =>
              rw [if_pos rfl] at ho
              subst ho
              have hlt0 : (0 : Int) < (l.length : Int) := hlt
              have hix0 : ixS 5 v (.int .i64 0) = some (.pointer (some ⟨b1, o1, none⟩)) := hix
              refine ⟨H1, s1, fun _ K => ?_, fun h => absurd h (by simp [okC, e1, e2, e3, e4, e5])⟩
              rw [r_delta_Valid_0, Int.natCast_add]
              simp (disch := first | with_reducible rfl | assumption | omega | rfl | (simp only [go_sem]; first | done | omega)) only [go_sem, ↓reduceIte, reduceCtorEq, Nat.reduceEqDiff, Nat.reduceAdd, Nat.reduceSub, Nat.reduceMul, Nat.reduceDiv, Nat.reduceMod, Nat.reduceLeDiff, Nat.reduceLT, Nat.reduceBEq, Int.reduceEq, Int.reduceBEq, Int.reduceBNe, Int.reduceLT, Int.reduceLE, Int.reduceAdd, Int.reduceSub, Int.reduceNeg, Int.reduceToNat, Int.reducePow, Nat.reducePow, Int.reduceMul, Int.reduceDiv, ↓s_delta_Valid_b0, hlen, hlt, hix, hc1, hH1, f1, bl_mk, enterK_eq hal1, enterK_eq hal2, decide_eq_true e1, decide_eq_true e2, decide_eq_true e3, decide_eq_true e4, enterK_eq hsm, e5, Int.natCast_zero, hlt0, hix0]
            | succ j =>
              have hj : j < l.length := by omega
              rw [if_neg (by omega), Nat.add_sub_cancel, List.getElem?_eq_getElem hj] at ho
              subst ho
              obtain ⟨b2, o2, hix2, _, hc2, _⟩ := (hr.still s1).ix (q := .i64) hj
              have hix2 : ixS 5 v (.int .i64 j) = some (.pointer (some ⟨b2, o2, none⟩)) := hix2
              have hk2 : cellB (H1.f b2) o2 = some (.string l[j].key) := cutB_cell hc2 (i := 0) (by decide)
              have hpos : (0 : Int) < (j : Int) + 1 := by omega
              have hsub : (j : Int) + 1 - 1 = (j : Int) := by omega
              have hlt1 : (j : Int) + 1 < (l.length : Int) := by omega
              have hix1 : ixS 5 v (.int .i64 ((j : Int) + 1)) = some (.pointer (some ⟨b1, o1, none⟩)) := hix
              by_cases e6 : cmpS l[j].key key < 0
              · refine ⟨H1, s1, fun _ K => ?_, fun h => absurd h (by simp [okC, e1, e2, e3, e4, e5, e6])⟩
                rw [r_delta_Valid_0, Int.natCast_add]
                simp (disch := first | with_reducible rfl | assumption | omega | rfl | (simp only [go_sem]; first | done | omega)) only [go_sem, ↓reduceIte, reduceCtorEq, Nat.reduceEqDiff, Nat.reduceAdd, Nat.reduceSub, Nat.reduceMul, Nat.reduceDiv, Nat.reduceMod, Nat.reduceLeDiff, Nat.reduceLT, Nat.reduceBEq, Int.reduceEq, Int.reduceBEq, Int.reduceBNe, Int.reduceLT, Int.reduceLE, Int.reduceAdd, Int.reduceSub, Int.reduceNeg, Int.reduceToNat, Int.reducePow, Nat.reducePow, Int.reduceMul, Int.reduceDiv, ↓s_delta_Valid_b0, hlen, hlt, hix, hc1, hH1, f1, bl_mk, enterK_eq hal1, enterK_eq hal2, decide_eq_true e1, decide_eq_true e2, decide_eq_true e3, decide_eq_true e4, enterK_eq hsm, e5, Int.natCast_add, hlt1, hix1, decide_eq_true hpos, hsub, hix2, hk2, less_cmpS, decide_eq_true e6]
              · refine ⟨H1, s1, fun h => absurd h (by simp [okC, e1, e2, e3, e4, e5, e6]), fun _ K => ?_⟩
                rw [r_delta_Valid_0]
                simp (disch := first | with_reducible rfl | assumption | omega | rfl | (simp only [go_sem]; first | done | omega)) only [go_sem, ↓reduceIte, reduceCtorEq, Nat.reduceEqDiff, Nat.reduceAdd, Nat.reduceSub, Nat.reduceMul, Nat.reduceDiv, Nat.reduceMod, Nat.reduceLeDiff, Nat.reduceLT, Nat.reduceBEq, Int.reduceEq, Int.reduceBEq, Int.reduceBNe, Int.reduceLT, Int.reduceLE, Int.reduceAdd, Int.reduceSub, Int.reduceNeg, Int.reduceToNat, Int.reducePow, Nat.reducePow, Int.reduceMul, Int.reduceDiv, ↓s_delta_Valid_b0, hlen, hlt, hix, hc1, hH1, f1, bl_mk, enterK_eq hal1, enterK_eq hal2, decide_eq_true e1, decide_eq_true e2, decide_eq_true e3, decide_eq_true e4, enterK_eq hsm, e5, Int.natCast_add, hlt1, hix1, decide_eq_true hpos, hsub, hix2, hk2, less_cmpS, decide_eq_false e6]
        · refine ⟨H1, s1, fun h => absurd h (by simp [okC, e1, e2, e3, e4]), fun _ K => ?_⟩
          rw [r_delta_Valid_0]
          simp (disch := first | with_reducible rfl | assumption | omega | rfl | (simp only [go_sem]; first | done | omega)) only [go_sem, ↓reduceIte, reduceCtorEq, Nat.reduceEqDiff, Nat.reduceAdd, Nat.reduceSub, Nat.reduceMul, Nat.reduceDiv, Nat.reduceMod, Nat.reduceLeDiff, Nat.reduceLT, Nat.reduceBEq, Int.reduceEq, Int.reduceBEq, Int.reduceBNe, Int.reduceLT, Int.reduceLE, Int.reduceAdd, Int.reduceSub, Int.reduceNeg, Int.reduceToNat, Int.reducePow, Nat.reducePow, Int.reduceMul, Int.reduceDiv, ↓s_delta_Valid_b0, hlen, hlt, hix, hc1, hH1, f1, bl_mk, enterK_eq hal1, enterK_eq hal2, decide_eq_true e1, decide_eq_true e2, decide_eq_true e3, decide_eq_false e4]
      · refine ⟨H1, s1, fun h => absurd h (by simp [okC, e1, e2, e3]), fun _ K => ?_⟩
        rw [r_delta_Valid_0]
        simp (disch := first | with_reducible rfl | assumption | omega | rfl | (simp only [go_sem]; first | done | omega)) only [go_sem, ↓reduceIte, reduceCtorEq, Nat.reduceEqDiff, Nat.reduceAdd, Nat.reduceSub, Nat.reduceMul, Nat.reduceDiv, Nat.reduceMod, Nat.reduceLeDiff, Nat.reduceLT, Nat.reduceBEq, Int.reduceEq, Int.reduceBEq, Int.reduceBNe, Int.reduceLT, Int.reduceLE, Int.reduceAdd, Int.reduceSub, Int.reduceNeg, Int.reduceToNat, Int.reducePow, Nat.reducePow, Int.reduceMul, Int.reduceDiv, ↓s_delta_Valid_b0, hlen, hlt, hix, hc1, hH1, f1, bl_mk, enterK_eq hal1, enterK_eq hal2, decide_eq_true e1, decide_eq_true e2, decide_eq_false e3]
    · refine ⟨H1, s1, fun h => absurd h (by simp [okC, e1, e2]), fun _ K => ?_⟩
      rw [r_delta_Valid_0]
      simp (disch := first | with_reducible rfl | assumption | omega | rfl | (simp only [go_sem]; first | done | omega)) only [go_sem, ↓reduceIte, reduceCtorEq, Nat.reduceEqDiff, Nat.reduceAdd, Nat.reduceSub, Nat.reduceMul, Nat.reduceDiv, Nat.reduceMod, Nat.reduceLeDiff, Nat.reduceLT, Nat.reduceBEq, Int.reduceEq, Int.reduceBEq, Int.reduceBNe, Int.reduceLT, Int.reduceLE, Int.reduceAdd, Int.reduceSub, Int.reduceNeg, Int.reduceToNat, Int.reducePow, Nat.reducePow, Int.reduceMul, Int.reduceDiv, ↓s_delta_Valid_b0, hlen, hlt, hix, hc1, hH1, f1, bl_mk, enterK_eq hal1, enterK_eq hal2, decide_eq_true e1, decide_eq_false e2]
  · refine ⟨H1, s1, fun h => absurd h (by simp [okC, e1]), fun _ K => ?_⟩
    rw [r_delta_Valid_0]
    simp (disch := first | with_reducible rfl | assumption | omega | rfl | (simp only [go_sem]; first | done | omega)) only [go_sem, ↓reduceIte, reduceCtorEq, Nat.reduceEqDiff, Nat.reduceAdd, Nat.reduceSub, Nat.reduceMul, Nat.reduceDiv, Nat.reduceMod, Nat.reduceLeDiff, Nat.reduceLT, Nat.reduceBEq, Int.reduceEq, Int.reduceBEq, Int.reduceBNe, Int.reduceLT, Int.reduceLE, Int.reduceAdd, Int.reduceSub, Int.reduceNeg, Int.reduceToNat, Int.reducePow, Nat.reducePow, Int.reduceMul, Int.reduceDiv, ↓s_delta_Valid_b0, hlen, hlt, hix, hc1, hH1, f1, bl_mk, enterK_eq hal1, enterK_eq hal2, decide_eq_false e1]
theorem s_dValid (l : List Cg) (v : Value) (H : AHeap) (ok : Ok H) (hr : Rd ECg H v l) (hl : l.length ≤ 1000000) (i : Nat) (h : i < l.length) (key before after : ByteArray) (was is : Bool) (hxa : l[i] = ⟨key, was, is, before, after⟩) (o : Option Cg) (ho : (if i = 0 then none else l[i - 1]?) = o) :
    ∃ H1, Still H H1 ∧ (okC o ⟨key, was, is, before, after⟩ = true → ∀ K : K, l_delta_Valid_0 v v (.int .i64 (l.length : Int)) (.int .i64 (i : Int)) H (blkK [] 0 K) = l_delta_Valid_0 v v (.int .i64 (l.length : Int)) (.int .i64 ((i + 1 : Nat) : Int)) H1 (blkK [] 0 K)) ∧
      (okC o ⟨key, was, is, before, after⟩ = false → ∀ K : K, l_delta_Valid_0 v v (.int .i64 (l.length : Int)) (.int .i64 (i : Int)) H (blkK [] 0 K) = K .ret [(2, .bool false)] H1) := by
  cases was <;> cases is
  · exact s_dValid_ff l v H ok hr hl i h key before after hxa o ho
  · exact s_dValid_ft l v H ok hr hl i h key before after hxa o ho
  · exact s_dValid_tf l v H ok hr hl i h key before after hxa o ho
  · exact s_dValid_tt l v H ok hr hl i h key before after hxa o ho
theorem s_lValid_tt (l : List Cg) (v : Value) (H : AHeap) (ok : Ok H) (hr : Rd ECg H v l) (hl : l.length ≤ 1000000) (i : Nat) (h : i < l.length) (key before after : ByteArray) (hxa : l[i] = ⟨key, true, true, before, after⟩) (o : Option Cg) (ho : (if i = 0 then none else l[i - 1]?) = o) :
    ∃ H1, Still H H1 ∧ (okC o ⟨key, true, true, before, after⟩ = true → ∀ K : K, l_law_valid_0 v (.int .i64 (i : Int)) H (blkK [] 0 K) = l_law_valid_0 v (.int .i64 ((i + 1 : Nat) : Int)) H1 (blkK [] 0 K)) ∧
      (okC o ⟨key, true, true, before, after⟩ = false → ∀ K : K, l_law_valid_0 v (.int .i64 (i : Int)) H (blkK [] 0 K) = K .ret [(2, .bool false)] H1) := by
  have hlt : (i : Int) < (l.length : Int) := by omega
  have hlen := hr.lenS
  obtain ⟨b1, o1, hix, hb1, hc1, _⟩ := hr.ix (q := .i64) h
  rw [hxa] at hc1
  have hix : ixS 5 v (.int .i64 i) = some (.pointer (some ⟨b1, o1, none⟩)) := hix
  have hc1 : cutB (H.f b1) o1 5 = some [.string key, .bool true, .bool true, .string before, .string after] := hc1
  generalize hH1 : (H.push (.cells [.string (mk []), .bool false, .bool false, .string (mk []), .string (mk [])] T.api_Change true)).set H.n (.cells [.string key, .bool true, .bool true, .string before, .string after] T.api_Change true) = H1
  have s1 : Still H H1 := by rw [← hH1]; exact Fr.set ((Fr.refl H).push _) _ _ (fun h => by omega)
  have f1 : H1.f H.n = .cells [.string key, .bool true, .bool true, .string before, .string after] T.api_Change true := by rw [← hH1]; exact set_f_eq
  have ok1 := ok.fr s1
  have hsm := q_none ⟨key, true, true, before, after⟩ H1
  have k0 : chk key [before] = 0 ↔ ¬ ((bl key).length : Int) < 1 ∧ ¬ 24 < ((bl key).length : Int) ∧ ¬ 40 < ((bl before).length : Int) := chk_len key before
  have k1 : chk key [after] = 0 ↔ ¬ ((bl key).length : Int) < 1 ∧ ¬ 24 < ((bl key).length : Int) ∧ ¬ 40 < ((bl after).length : Int) := chk_len key after
  by_cases e1 : ((bl key).length : Int) < 1
  · refine ⟨H1, s1, fun h => absurd h (by simp [okC, k0, k1, e1]), fun _ K => ?_⟩
    rw [r_law_valid_0]
    simp (disch := first | with_reducible rfl | assumption | omega | rfl | (simp only [go_sem]; first | done | omega)) only [go_sem, ↓reduceIte, reduceCtorEq, Nat.reduceEqDiff, Nat.reduceAdd, Nat.reduceSub, Nat.reduceMul, Nat.reduceDiv, Nat.reduceMod, Nat.reduceLeDiff, Nat.reduceLT, Nat.reduceBEq, Int.reduceEq, Int.reduceBEq, Int.reduceBNe, Int.reduceLT, Int.reduceLE, Int.reduceAdd, Int.reduceSub, Int.reduceNeg, Int.reduceToNat, Int.reducePow, Nat.reducePow, Int.reduceMul, Int.reduceDiv, ↓s_law_valid_b0, hlen, hlt, hix, hc1, hH1, f1, bl_mk, decide_eq_true e1]
  · by_cases e2 : 24 < ((bl key).length : Int)
    · refine ⟨H1, s1, fun h => absurd h (by simp [okC, k0, k1, e1, e2]), fun _ K => ?_⟩
      rw [r_law_valid_0]
      simp (disch := first | with_reducible rfl | assumption | omega | rfl | (simp only [go_sem]; first | done | omega)) only [go_sem, ↓reduceIte, reduceCtorEq, Nat.reduceEqDiff, Nat.reduceAdd, Nat.reduceSub, Nat.reduceMul, Nat.reduceDiv, Nat.reduceMod, Nat.reduceLeDiff, Nat.reduceLT, Nat.reduceBEq, Int.reduceEq, Int.reduceBEq, Int.reduceBNe, Int.reduceLT, Int.reduceLE, Int.reduceAdd, Int.reduceSub, Int.reduceNeg, Int.reduceToNat, Int.reducePow, Nat.reducePow, Int.reduceMul, Int.reduceDiv, ↓s_law_valid_b0, hlen, hlt, hix, hc1, hH1, f1, bl_mk, decide_eq_false e1, decide_eq_true e2]
    · by_cases e7 : 40 < ((bl before).length : Int)
      · refine ⟨H1, s1, fun h => absurd h (by simp [okC, k0, k1, e1, e2, e7]), fun _ K => ?_⟩
        rw [r_law_valid_0]
        simp (disch := first | with_reducible rfl | assumption | omega | rfl | (simp only [go_sem]; first | done | omega)) only [go_sem, ↓reduceIte, reduceCtorEq, Nat.reduceEqDiff, Nat.reduceAdd, Nat.reduceSub, Nat.reduceMul, Nat.reduceDiv, Nat.reduceMod, Nat.reduceLeDiff, Nat.reduceLT, Nat.reduceBEq, Int.reduceEq, Int.reduceBEq, Int.reduceBNe, Int.reduceLT, Int.reduceLE, Int.reduceAdd, Int.reduceSub, Int.reduceNeg, Int.reduceToNat, Int.reducePow, Nat.reducePow, Int.reduceMul, Int.reduceDiv, ↓s_law_valid_b0, hlen, hlt, hix, hc1, hH1, f1, bl_mk, decide_eq_false e1, decide_eq_false e2, decide_eq_true e7]
      · by_cases e8 : 40 < ((bl after).length : Int)
        · refine ⟨H1, s1, fun h => absurd h (by simp [okC, k0, k1, e1, e2, e7, e8]), fun _ K => ?_⟩
          rw [r_law_valid_0]
          simp (disch := first | with_reducible rfl | assumption | omega | rfl | (simp only [go_sem]; first | done | omega)) only [go_sem, ↓reduceIte, reduceCtorEq, Nat.reduceEqDiff, Nat.reduceAdd, Nat.reduceSub, Nat.reduceMul, Nat.reduceDiv, Nat.reduceMod, Nat.reduceLeDiff, Nat.reduceLT, Nat.reduceBEq, Int.reduceEq, Int.reduceBEq, Int.reduceBNe, Int.reduceLT, Int.reduceLE, Int.reduceAdd, Int.reduceSub, Int.reduceNeg, Int.reduceToNat, Int.reducePow, Nat.reducePow, Int.reduceMul, Int.reduceDiv, ↓s_law_valid_b0, hlen, hlt, hix, hc1, hH1, f1, bl_mk, decide_eq_false e1, decide_eq_false e2, decide_eq_false e7, decide_eq_true e8]
        · cases e5 : noneC ⟨key, true, true, before, after⟩ with
          | true =>
            refine ⟨H1, s1, fun h => absurd h (by simp [okC, k0, k1, e1, e2, e7, e8, e5]), fun _ K => ?_⟩
            rw [r_law_valid_0]
            simp (disch := first | with_reducible rfl | assumption | omega | rfl | (simp only [go_sem]; first | done | omega)) only [go_sem, ↓reduceIte, reduceCtorEq, Nat.reduceEqDiff, Nat.reduceAdd, Nat.reduceSub, Nat.reduceMul, Nat.reduceDiv, Nat.reduceMod, Nat.reduceLeDiff, Nat.reduceLT, Nat.reduceBEq, Int.reduceEq, Int.reduceBEq, Int.reduceBNe, Int.reduceLT, Int.reduceLE, Int.reduceAdd, Int.reduceSub, Int.reduceNeg, Int.reduceToNat, Int.reducePow, Nat.reducePow, Int.reduceMul, Int.reduceDiv, ↓s_law_valid_b0, hlen, hlt, hix, hc1, hH1, f1, bl_mk, decide_eq_false e1, decide_eq_false e2, decide_eq_false e7, decide_eq_false e8, enterK_eq hsm, e5]
          | false =>
            cases i with
            | zero =>
              rw [if_pos rfl] at ho
              subst ho
              have hlt0 : (0 : Int) < (l.length : Int) := hlt
              have hix0 : ixS 5 v (.int .i64 0) = some (.pointer (some ⟨b1, o1, none⟩)) := hix
              refine ⟨H1, s1, fun _ K => ?_, fun h => absurd h (by simp [okC, k0, k1, e1, e2, e7, e8, e5])⟩
              rw [r_law_valid_0, Int.natCast_add]
              simp (disch := first | with_reducible rfl | assumption | omega | rfl | (simp only [go_sem]; first | done | omega)) only [go_sem, ↓reduceIte, reduceCtorEq, Nat.reduceEqDiff, Nat.reduceAdd, Nat.reduceSub, Nat.reduceMul, Nat.reduceDiv, Nat.reduceMod, Nat.reduceLeDiff, Nat.reduceLT, Nat.reduceBEq, Int.reduceEq, Int.reduceBEq, Int.reduceBNe, Int.reduceLT, Int.reduceLE, Int.reduceAdd, Int.reduceSub, Int.reduceNeg, Int.reduceToNat, Int.reducePow, Nat.reducePow, Int.reduceMul, Int.reduceDiv, ↓s_law_valid_b0, hlen, hlt, hix, hc1, hH1, f1, bl_mk, decide_eq_false e1, decide_eq_false e2, decide_eq_false e7, decide_eq_false e8, enterK_eq hsm, e5, Int.natCast_zero, hlt0, hix0]
            | succ j =>
              have hj : j < l.length := by omega
              rw [if_neg (by omega), Nat.add_sub_cancel, List.getElem?_eq_getElem hj] at ho
              subst ho
              obtain ⟨b2, o2, hix2, _, hc2, _⟩ := (hr.still s1).ix (q := .i64) hj
              have hix2 : ixS 5 v (.int .i64 j) = some (.pointer (some ⟨b2, o2, none⟩)) := hix2
              have hk2 : cellB (H1.f b2) o2 = some (.string l[j].key) := cutB_cell hc2 (i := 0) (by decide)
              have hpos : (0 : Int) < (j : Int) + 1 := by omega
              have hsub : (j : Int) + 1 - 1 = (j : Int) := by omega
              have hlt1 : (j : Int) + 1 < (l.length : Int) := by omega
              have hix1 : ixS 5 v (.int .i64 ((j : Int) + 1)) = some (.pointer (some ⟨b1, o1, none⟩)) := hix
              by_cases e6 : cmpS l[j].key key < 0
              · refine ⟨H1, s1, fun _ K => ?_, fun h => absurd h (by simp [okC, k0, k1, e1, e2, e7, e8, e5, e6])⟩
                rw [r_law_valid_0, Int.natCast_add]
                simp (disch := first | with_reducible rfl | assumption | omega | rfl | (simp only [go_sem]; first | done | omega)) only [go_sem, ↓reduceIte, reduceCtorEq, Nat.reduceEqDiff, Nat.reduceAdd, Nat.reduceSub, Nat.reduceMul, Nat.reduceDiv, Nat.reduceMod, Nat.reduceLeDiff, Nat.reduceLT, Nat.reduceBEq, Int.reduceEq, Int.reduceBEq, Int.reduceBNe, Int.reduceLT, Int.reduceLE, Int.reduceAdd, Int.reduceSub, Int.reduceNeg, Int.reduceToNat, Int.reducePow, Nat.reducePow, Int.reduceMul, Int.reduceDiv, ↓s_law_valid_b0, hlen, hlt, hix, hc1, hH1, f1, bl_mk, decide_eq_false e1, decide_eq_false e2, decide_eq_false e7, decide_eq_false e8, enterK_eq hsm, e5, Int.natCast_add, hlt1, hix1, decide_eq_true hpos, hsub, hix2, hk2, less_cmpS, decide_eq_true e6]
              · refine ⟨H1, s1, fun h => absurd h (by simp [okC, k0, k1, e1, e2, e7, e8, e5, e6]), fun _ K => ?_⟩
                rw [r_law_valid_0]
                simp (disch := first | with_reducible rfl | assumption | omega | rfl | (simp only [go_sem]; first | done | omega)) only [go_sem, ↓reduceIte, reduceCtorEq, Nat.reduceEqDiff, Nat.reduceAdd, Nat.reduceSub, Nat.reduceMul, Nat.reduceDiv, Nat.reduceMod, Nat.reduceLeDiff, Nat.reduceLT, Nat.reduceBEq, Int.reduceEq, Int.reduceBEq, Int.reduceBNe, Int.reduceLT, Int.reduceLE, Int.reduceAdd, Int.reduceSub, Int.reduceNeg, Int.reduceToNat, Int.reducePow, Nat.reducePow, Int.reduceMul, Int.reduceDiv, ↓s_law_valid_b0, hlen, hlt, hix, hc1, hH1, f1, bl_mk, decide_eq_false e1, decide_eq_false e2, decide_eq_false e7, decide_eq_false e8, enterK_eq hsm, e5, Int.natCast_add, hlt1, hix1, decide_eq_true hpos, hsub, hix2, hk2, less_cmpS, decide_eq_false e6]
theorem s_lValid_tf (l : List Cg) (v : Value) (H : AHeap) (ok : Ok H) (hr : Rd ECg H v l) (hl : l.length ≤ 1000000) (i : Nat) (h : i < l.length) (key before after : ByteArray) (hxa : l[i] = ⟨key, true, false, before, after⟩) (o : Option Cg) (ho : (if i = 0 then none else l[i - 1]?) = o) :
    ∃ H1, Still H H1 ∧ (okC o ⟨key, true, false, before, after⟩ = true → ∀ K : K, l_law_valid_0 v (.int .i64 (i : Int)) H (blkK [] 0 K) = l_law_valid_0 v (.int .i64 ((i + 1 : Nat) : Int)) H1 (blkK [] 0 K)) ∧
      (okC o ⟨key, true, false, before, after⟩ = false → ∀ K : K, l_law_valid_0 v (.int .i64 (i : Int)) H (blkK [] 0 K) = K .ret [(2, .bool false)] H1) := by
  have hlt : (i : Int) < (l.length : Int) := by omega
  have hlen := hr.lenS
  obtain ⟨b1, o1, hix, hb1, hc1, _⟩ := hr.ix (q := .i64) h
  rw [hxa] at hc1
  have hix : ixS 5 v (.int .i64 i) = some (.pointer (some ⟨b1, o1, none⟩)) := hix
  have hc1 : cutB (H.f b1) o1 5 = some [.string key, .bool true, .bool false, .string before, .string after] := hc1
  generalize hH1 : (H.push (.cells [.string (mk []), .bool false, .bool false, .string (mk []), .string (mk [])] T.api_Change true)).set H.n (.cells [.string key, .bool true, .bool false, .string before, .string after] T.api_Change true) = H1
  have s1 : Still H H1 := by rw [← hH1]; exact Fr.set ((Fr.refl H).push _) _ _ (fun h => by omega)
  have f1 : H1.f H.n = .cells [.string key, .bool true, .bool false, .string before, .string after] T.api_Change true := by rw [← hH1]; exact set_f_eq
  have ok1 := ok.fr s1
  have hsm := q_none ⟨key, true, false, before, after⟩ H1
  have k0 : chk key [before] = 0 ↔ ¬ ((bl key).length : Int) < 1 ∧ ¬ 24 < ((bl key).length : Int) ∧ ¬ 40 < ((bl before).length : Int) := chk_len key before
  have k1 : chk key [after] = 0 ↔ ¬ ((bl key).length : Int) < 1 ∧ ¬ 24 < ((bl key).length : Int) ∧ ¬ 40 < ((bl after).length : Int) := chk_len key after
  by_cases e1 : ((bl key).length : Int) < 1
  · refine ⟨H1, s1, fun h => absurd h (by simp [okC, k0, k1, e1]), fun _ K => ?_⟩
    rw [r_law_valid_0]
    simp (disch := first | with_reducible rfl | assumption | omega | rfl | (simp only [go_sem]; first | done | omega)) only [go_sem, ↓reduceIte, reduceCtorEq, Nat.reduceEqDiff, Nat.reduceAdd, Nat.reduceSub, Nat.reduceMul, Nat.reduceDiv, Nat.reduceMod, Nat.reduceLeDiff, Nat.reduceLT, Nat.reduceBEq, Int.reduceEq, Int.reduceBEq, Int.reduceBNe, Int.reduceLT, Int.reduceLE, Int.reduceAdd, Int.reduceSub, Int.reduceNeg, Int.reduceToNat, Int.reducePow, Nat.reducePow, Int.reduceMul, Int.reduceDiv, ↓s_law_valid_b0, hlen, hlt, hix, hc1, hH1, f1, bl_mk, decide_eq_true e1]
  · by_cases e2 : 24 < ((bl key).length : Int)
    · refine ⟨H1, s1, fun h => absurd h (by simp [okC, k0, k1, e1, e2]), fun _ K => ?_⟩
      rw [r_law_valid_0]
      simp (disch := first | with_reducible rfl | assumption | omega | rfl | (simp only [go_sem]; first | done | omega)) only [go_sem, ↓reduceIte, reduceCtorEq, Nat.reduceEqDiff, Nat.reduceAdd, Nat.reduceSub, Nat.reduceMul, Nat.reduceDiv, Nat.reduceMod, Nat.reduceLeDiff, Nat.reduceLT, Nat.reduceBEq, Int.reduceEq, Int.reduceBEq, Int.reduceBNe, Int.reduceLT, Int.reduceLE, Int.reduceAdd, Int.reduceSub, Int.reduceNeg, Int.reduceToNat, Int.reducePow, Nat.reducePow, Int.reduceMul, Int.reduceDiv, ↓s_law_valid_b0, hlen, hlt, hix, hc1, hH1, f1, bl_mk, decide_eq_false e1, decide_eq_true e2]
    · by_cases e7 : 40 < ((bl before).length : Int)
      · refine ⟨H1, s1, fun h => absurd h (by simp [okC, k0, k1, e1, e2, e7]), fun _ K => ?_⟩
        rw [r_law_valid_0]
        simp (disch := first | with_reducible rfl | assumption | omega | rfl | (simp only [go_sem]; first | done | omega)) only [go_sem, ↓reduceIte, reduceCtorEq, Nat.reduceEqDiff, Nat.reduceAdd, Nat.reduceSub, Nat.reduceMul, Nat.reduceDiv, Nat.reduceMod, Nat.reduceLeDiff, Nat.reduceLT, Nat.reduceBEq, Int.reduceEq, Int.reduceBEq, Int.reduceBNe, Int.reduceLT, Int.reduceLE, Int.reduceAdd, Int.reduceSub, Int.reduceNeg, Int.reduceToNat, Int.reducePow, Nat.reducePow, Int.reduceMul, Int.reduceDiv, ↓s_law_valid_b0, hlen, hlt, hix, hc1, hH1, f1, bl_mk, decide_eq_false e1, decide_eq_false e2, decide_eq_true e7]
      · by_cases e8 : 40 < ((bl after).length : Int)
        · refine ⟨H1, s1, fun h => absurd h (by simp [okC, k0, k1, e1, e2, e7, e8]), fun _ K => ?_⟩
          rw [r_law_valid_0]
          simp (disch := first | with_reducible rfl | assumption | omega | rfl | (simp only [go_sem]; first | done | omega)) only [go_sem, ↓reduceIte, reduceCtorEq, Nat.reduceEqDiff, Nat.reduceAdd, Nat.reduceSub, Nat.reduceMul, Nat.reduceDiv, Nat.reduceMod, Nat.reduceLeDiff, Nat.reduceLT, Nat.reduceBEq, Int.reduceEq, Int.reduceBEq, Int.reduceBNe, Int.reduceLT, Int.reduceLE, Int.reduceAdd, Int.reduceSub, Int.reduceNeg, Int.reduceToNat, Int.reducePow, Nat.reducePow, Int.reduceMul, Int.reduceDiv, ↓s_law_valid_b0, hlen, hlt, hix, hc1, hH1, f1, bl_mk, decide_eq_false e1, decide_eq_false e2, decide_eq_false e7, decide_eq_true e8]
        · by_cases e4 : bl after = []
          · cases e5 : noneC ⟨key, true, false, before, after⟩ with
            | true =>
              refine ⟨H1, s1, fun h => absurd h (by simp [okC, k0, k1, e1, e2, e7, e8, e4, e5]), fun _ K => ?_⟩
              rw [r_law_valid_0]
              simp (disch := first | with_reducible rfl | assumption | omega | rfl | (simp only [go_sem]; first | done | omega)) only [go_sem, ↓reduceIte, reduceCtorEq, Nat.reduceEqDiff, Nat.reduceAdd, Nat.reduceSub, Nat.reduceMul, Nat.reduceDiv, Nat.reduceMod, Nat.reduceLeDiff, Nat.reduceLT, Nat.reduceBEq, Int.reduceEq, Int.reduceBEq, Int.reduceBNe, Int.reduceLT, Int.reduceLE, Int.reduceAdd, Int.reduceSub, Int.reduceNeg, Int.reduceToNat, Int.reducePow, Nat.reducePow, Int.reduceMul, Int.reduceDiv, ↓s_law_valid_b0, hlen, hlt, hix, hc1, hH1, f1, bl_mk, decide_eq_false e1, decide_eq_false e2, decide_eq_false e7, decide_eq_false e8, decide_eq_true e4, enterK_eq hsm, e5]
            | false =>
              cases i with
              | zero =>
                rw [if_pos rfl] at ho
                subst ho
                have hlt0 : (0 : Int) < (l.length : Int) := hlt
                have hix0 : ixS 5 v (.int .i64 0) = some (.pointer (some ⟨b1, o1, none⟩)) := hix
                refine ⟨H1, s1, fun _ K => ?_, fun h => absurd h (by simp [okC, k0, k1, e1, e2, e7, e8, e4, e5])⟩
                rw [r_law_valid_0, Int.natCast_add]
                simp (disch := first | with_reducible rfl | assumption | omega | rfl | (simp only [go_sem]; first | done | omega)) only [go_sem, ↓reduceIte, reduceCtorEq, Nat.reduceEqDiff, Nat.reduceAdd, Nat.reduceSub, Nat.reduceMul, Nat.reduceDiv, Nat.reduceMod, Nat.reduceLeDiff, Nat.reduceLT, Nat.reduceBEq, Int.reduceEq, Int.reduceBEq, Int.reduceBNe, Int.reduceLT, Int.reduceLE, Int.reduceAdd, Int.reduceSub, Int.reduceNeg, Int.reduceToNat, Int.reducePow, Nat.reducePow, Int.reduceMul, Int.reduceDiv, ↓s_law_valid_b0, hlen, hlt, hix, hc1, hH1, f1, bl_mk, decide_eq_false e1, decide_eq_false e2, decide_eq_false e7, decide_eq_false e8, decide_eq_true e4, enterK_eq hsm, e5, Int.natCast_zero, hlt0, hix0]
              | succ j =>
                have hj : j < l.length := by omega
                rw [if_neg (by omega), Nat.add_sub_cancel, List.getElem?_eq_getElem hj] at ho
                subst ho
                obtain ⟨b2, o2, hix2, _, hc2, _⟩ := (hr.still s1).ix (q := .i64) hj
                have hix2 : ixS 5 v (.int .i64 j) = some (.pointer (some ⟨b2, o2, none⟩)) := hix2
                have hk2 : cellB (H1.f b2) o2 = some (.string l[j].key) := cutB_cell hc2 (i := 0) (by decide)
                have hpos : (0 : Int) < (j : Int) + 1 := by omega
                have hsub : (j : Int) + 1 - 1 = (j : Int) := by omega
                have hlt1 : (j : Int) + 1 < (l.length : Int) := by omega
                have hix1 : ixS 5 v (.int .i64 ((j : Int) + 1)) = some (.pointer (some ⟨b1, o1, none⟩)) := hix
                by_cases e6 : cmpS l[j].key key < 0
                · refine ⟨H1, s1, fun _ K => ?_, fun h => absurd h (by simp [okC, k0, k1, e1, e2, e7, e8, e4, e5, e6])⟩
                  rw [r_law_valid_0, Int.natCast_add]
                  simp (disch := first | with_reducible rfl | assumption | omega | rfl | (simp only [go_sem]; first | done | omega)) only [go_sem, ↓reduceIte, reduceCtorEq, Nat.reduceEqDiff, Nat.reduceAdd, Nat.reduceSub, Nat.reduceMul, Nat.reduceDiv, Nat.reduceMod, Nat.reduceLeDiff, Nat.reduceLT, Nat.reduceBEq, Int.reduceEq, Int.reduceBEq, Int.reduceBNe, Int.reduceLT, Int.reduceLE, Int.reduceAdd, Int.reduceSub, Int.reduceNeg, Int.reduceToNat, Int.reducePow, Nat.reducePow, Int.reduceMul, Int.reduceDiv, ↓s_law_valid_b0, hlen, hlt, hix, hc1, hH1, f1, bl_mk, decide_eq_false e1, decide_eq_false e2, decide_eq_false e7, decide_eq_false e8, decide_eq_true e4, enterK_eq hsm, e5, Int.natCast_add, hlt1, hix1, decide_eq_true hpos, hsub, hix2, hk2, less_cmpS, decide_eq_true e6]
                · refine ⟨H1, s1, fun h => absurd h (by simp [okC, k0, k1, e1, e2, e7, e8, e4, e5, e6]), fun _ K => ?_⟩
                  rw [r_law_valid_0]
                  simp (disch := first | with_reducible rfl | assumption | omega | rfl | (simp only [go_sem]; first | done | omega)) only [go_sem, ↓reduceIte, reduceCtorEq, Nat.reduceEqDiff, Nat.reduceAdd, Nat.reduceSub, Nat.reduceMul, Nat.reduceDiv, Nat.reduceMod, Nat.reduceLeDiff, Nat.reduceLT, Nat.reduceBEq, Int.reduceEq, Int.reduceBEq, Int.reduceBNe, Int.reduceLT, Int.reduceLE, Int.reduceAdd, Int.reduceSub, Int.reduceNeg, Int.reduceToNat, Int.reducePow, Nat.reducePow, Int.reduceMul, Int.reduceDiv, ↓s_law_valid_b0, hlen, hlt, hix, hc1, hH1, f1, bl_mk, decide_eq_false e1, decide_eq_false e2, decide_eq_false e7, decide_eq_false e8, decide_eq_true e4, enterK_eq hsm, e5, Int.natCast_add, hlt1, hix1, decide_eq_true hpos, hsub, hix2, hk2, less_cmpS, decide_eq_false e6]
          · refine ⟨H1, s1, fun h => absurd h (by simp [okC, k0, k1, e1, e2, e7, e8, e4]), fun _ K => ?_⟩
            rw [r_law_valid_0]
            simp (disch := first | with_reducible rfl | assumption | omega | rfl | (simp only [go_sem]; first | done | omega)) only [go_sem, ↓reduceIte, reduceCtorEq, Nat.reduceEqDiff, Nat.reduceAdd, Nat.reduceSub, Nat.reduceMul, Nat.reduceDiv, Nat.reduceMod, Nat.reduceLeDiff, Nat.reduceLT, Nat.reduceBEq, Int.reduceEq, Int.reduceBEq, Int.reduceBNe, Int.reduceLT, Int.reduceLE, Int.reduceAdd, Int.reduceSub, Int.reduceNeg, Int.reduceToNat, Int.reducePow, Nat.reducePow, Int.reduceMul, Int.reduceDiv, ↓s_law_valid_b0, hlen, hlt, hix, hc1, hH1, f1, bl_mk, decide_eq_false e1, decide_eq_false e2, decide_eq_false e7, decide_eq_false e8, decide_eq_false e4]
theorem s_lValid_ft (l : List Cg) (v : Value) (H : AHeap) (ok : Ok H) (hr : Rd ECg H v l) (hl : l.length ≤ 1000000) (i : Nat) (h : i < l.length) (key before after : ByteArray) (hxa : l[i] = ⟨key, false, true, before, after⟩) (o : Option Cg) (ho : (if i = 0 then none else l[i - 1]?) = o) :
    ∃ H1, Still H H1 ∧ (okC o ⟨key, false, true, before, after⟩ = true → ∀ K : K, l_law_valid_0 v (.int .i64 (i : Int)) H (blkK [] 0 K) = l_law_valid_0 v (.int .i64 ((i + 1 : Nat) : Int)) H1 (blkK [] 0 K)) ∧
      (okC o ⟨key, false, true, before, after⟩ = false → ∀ K : K, l_law_valid_0 v (.int .i64 (i : Int)) H (blkK [] 0 K) = K .ret [(2, .bool false)] H1) := by
  have hlt : (i : Int) < (l.length : Int) := by omega
  have hlen := hr.lenS
  obtain ⟨b1, o1, hix, hb1, hc1, _⟩ := hr.ix (q := .i64) h
  rw [hxa] at hc1
  have hix : ixS 5 v (.int .i64 i) = some (.pointer (some ⟨b1, o1, none⟩)) := hix
  have hc1 : cutB (H.f b1) o1 5 = some [.string key, .bool false, .bool true, .string before, .string after] := hc1
  generalize hH1 : (H.push (.cells [.string (mk []), .bool false, .bool false, .string (mk []), .string (mk [])] T.api_Change true)).set H.n (.cells [.string key, .bool false, .bool true, .string before, .string after] T.api_Change true) = H1
  have s1 : Still H H1 := by rw [← hH1]; exact Fr.set ((Fr.refl H).push _) _ _ (fun h => by omega)
  have f1 : H1.f H.n = .cells [.string key, .bool false, .bool true, .string before, .string after] T.api_Change true := by rw [← hH1]; exact set_f_eq
  have ok1 := ok.fr s1
  have hsm := q_none ⟨key, false, true, before, after⟩ H1
  have k0 : chk key [before] = 0 ↔ ¬ ((bl key).length : Int) < 1 ∧ ¬ 24 < ((bl key).length : Int) ∧ ¬ 40 < ((bl before).length : Int) := chk_len key before
  have k1 : chk key [after] = 0 ↔ ¬ ((bl key).length : Int) < 1 ∧ ¬ 24 < ((bl key).length : Int) ∧ ¬ 40 < ((bl after).length : Int) := chk_len key after
  by_cases e1 : ((bl key).length : Int) < 1
  · refine ⟨H1, s1, fun h => absurd h (by simp [okC, k0, k1, e1]), fun _ K => ?_⟩
    rw [r_law_valid_0]
    simp (disch := first | with_reducible rfl | assumption | omega | rfl | (simp only [go_sem]; first | done | omega)) only [go_sem, ↓reduceIte, reduceCtorEq, Nat.reduceEqDiff, Nat.reduceAdd, Nat.reduceSub, Nat.reduceMul, Nat.reduceDiv, Nat.reduceMod, Nat.reduceLeDiff, Nat.reduceLT, Nat.reduceBEq, Int.reduceEq, Int.reduceBEq, Int.reduceBNe, Int.reduceLT, Int.reduceLE, Int.reduceAdd, Int.reduceSub, Int.reduceNeg, Int.reduceToNat, Int.reducePow, Nat.reducePow, Int.reduceMul, Int.reduceDiv, ↓s_law_valid_b0, hlen, hlt, hix, hc1, hH1, f1, bl_mk, decide_eq_true e1]
  · by_cases e2 : 24 < ((bl key).length : Int)
    · refine ⟨H1, s1, fun h => absurd h (by simp [okC, k0, k1, e1, e2]), fun _ K => ?_⟩
      rw [r_law_valid_0]
      simp (disch := first | with_reducible rfl | assumption | omega | rfl | (simp only [go_sem]; first | done | omega)) only [go_sem, ↓reduceIte, reduceCtorEq, Nat.reduceEqDiff, Nat.reduceAdd, Nat.reduceSub, Nat.reduceMul, Nat.reduceDiv, Nat.reduceMod, Nat.reduceLeDiff, Nat.reduceLT, Nat.reduceBEq, Int.reduceEq, Int.reduceBEq, Int.reduceBNe, Int.reduceLT, Int.reduceLE, Int.reduceAdd, Int.reduceSub, Int.reduceNeg, Int.reduceToNat, Int.reducePow, Nat.reducePow, Int.reduceMul, Int.reduceDiv, ↓s_law_valid_b0, hlen, hlt, hix, hc1, hH1, f1, bl_mk, decide_eq_false e1, decide_eq_true e2]
    · by_cases e7 : 40 < ((bl before).length : Int)
      · refine ⟨H1, s1, fun h => absurd h (by simp [okC, k0, k1, e1, e2, e7]), fun _ K => ?_⟩
        rw [r_law_valid_0]
        simp (disch := first | with_reducible rfl | assumption | omega | rfl | (simp only [go_sem]; first | done | omega)) only [go_sem, ↓reduceIte, reduceCtorEq, Nat.reduceEqDiff, Nat.reduceAdd, Nat.reduceSub, Nat.reduceMul, Nat.reduceDiv, Nat.reduceMod, Nat.reduceLeDiff, Nat.reduceLT, Nat.reduceBEq, Int.reduceEq, Int.reduceBEq, Int.reduceBNe, Int.reduceLT, Int.reduceLE, Int.reduceAdd, Int.reduceSub, Int.reduceNeg, Int.reduceToNat, Int.reducePow, Nat.reducePow, Int.reduceMul, Int.reduceDiv, ↓s_law_valid_b0, hlen, hlt, hix, hc1, hH1, f1, bl_mk, decide_eq_false e1, decide_eq_false e2, decide_eq_true e7]
      · by_cases e8 : 40 < ((bl after).length : Int)
        · refine ⟨H1, s1, fun h => absurd h (by simp [okC, k0, k1, e1, e2, e7, e8]), fun _ K => ?_⟩
          rw [r_law_valid_0]
          simp (disch := first | with_reducible rfl | assumption | omega | rfl | (simp only [go_sem]; first | done | omega)) only [go_sem, ↓reduceIte, reduceCtorEq, Nat.reduceEqDiff, Nat.reduceAdd, Nat.reduceSub, Nat.reduceMul, Nat.reduceDiv, Nat.reduceMod, Nat.reduceLeDiff, Nat.reduceLT, Nat.reduceBEq, Int.reduceEq, Int.reduceBEq, Int.reduceBNe, Int.reduceLT, Int.reduceLE, Int.reduceAdd, Int.reduceSub, Int.reduceNeg, Int.reduceToNat, Int.reducePow, Nat.reducePow, Int.reduceMul, Int.reduceDiv, ↓s_law_valid_b0, hlen, hlt, hix, hc1, hH1, f1, bl_mk, decide_eq_false e1, decide_eq_false e2, decide_eq_false e7, decide_eq_true e8]
        · by_cases e3 : bl before = []
          · cases e5 : noneC ⟨key, false, true, before, after⟩ with
            | true =>
              refine ⟨H1, s1, fun h => absurd h (by simp [okC, k0, k1, e1, e2, e7, e8, e3, e5]), fun _ K => ?_⟩
              rw [r_law_valid_0]
              simp (disch := first | with_reducible rfl | assumption | omega | rfl | (simp only [go_sem]; first | done | omega)) only [go_sem, ↓reduceIte, reduceCtorEq, Nat.reduceEqDiff, Nat.reduceAdd, Nat.reduceSub, Nat.reduceMul, Nat.reduceDiv, Nat.reduceMod, Nat.reduceLeDiff, Nat.reduceLT, Nat.reduceBEq, Int.reduceEq, Int.reduceBEq, Int.reduceBNe, Int.reduceLT, Int.reduceLE, Int.reduceAdd, Int.reduceSub, Int.reduceNeg, Int.reduceToNat, Int.reducePow, Nat.reducePow, Int.reduceMul, Int.reduceDiv, ↓s_law_valid_b0, hlen, hlt, hix, hc1, hH1, f1, bl_mk, decide_eq_false e1, decide_eq_false e2, decide_eq_false e7, decide_eq_false e8, decide_eq_true e3, enterK_eq hsm, e5]
            | false =>
              cases i with
              | zero =>
                rw [if_pos rfl] at ho
                subst ho
                have hlt0 : (0 : Int) < (l.length : Int) := hlt
                have hix0 : ixS 5 v (.int .i64 0) = some (.pointer (some ⟨b1, o1, none⟩)) := hix
                refine ⟨H1, s1, fun _ K => ?_, fun h => absurd h (by simp [okC, k0, k1, e1, e2, e7, e8, e3, e5])⟩
                rw [r_law_valid_0, Int.natCast_add]
                simp (disch := first | with_reducible rfl | assumption | omega | rfl | (simp only [go_sem]; first | done | omega)) only [go_sem, ↓reduceIte, reduceCtorEq, Nat.reduceEqDiff, Nat.reduceAdd, Nat.reduceSub, Nat.reduceMul, Nat.reduceDiv, Nat.reduceMod, Nat.reduceLeDiff, Nat.reduceLT, Nat.reduceBEq, Int.reduceEq, Int.reduceBEq, Int.reduceBNe, Int.reduceLT, Int.reduceLE, Int.reduceAdd, Int.reduceSub, Int.reduceNeg, Int.reduceToNat, Int.reducePow, Nat.reducePow, Int.reduceMul, Int.reduceDiv, ↓s_law_valid_b0, hlen, hlt, hix, hc1, hH1, f1, bl_mk, decide_eq_false e1, decide_eq_false e2, decide_eq_false e7, decide_eq_false e8, decide_eq_true e3, enterK_eq hsm, e5, Int.natCast_zero, hlt0, hix0]
              | succ j =>
                have hj : j < l.length := by omega
                rw [if_neg (by omega), Nat.add_sub_cancel, List.getElem?_eq_getElem hj] at ho
                subst ho
                obtain ⟨b2, o2, hix2, _, hc2, _⟩ := (hr.still s1).ix (q := .i64) hj
                have hix2 : ixS 5 v (.int .i64 j) = some (.pointer (some ⟨b2, o2, none⟩)) := hix2
                have hk2 : cellB (H1.f b2) o2 = some (.string l[j].key) := cutB_cell hc2 (i := 0) (by decide)
                have hpos : (0 : Int) < (j : Int) + 1 := by omega
                have hsub : (j : Int) + 1 - 1 = (j : Int) := by omega
                have hlt1 : (j : Int) + 1 < (l.length : Int) := by omega
                have hix1 : ixS 5 v (.int .i64 ((j : Int) + 1)) = some (.pointer (some ⟨b1, o1, none⟩)) := hix
                by_cases e6 : cmpS l[j].key key < 0
                · refine ⟨H1, s1, fun _ K => ?_, fun h => absurd h (by simp [okC, k0, k1, e1, e2, e7, e8, e3, e5, e6])⟩
                  rw [r_law_valid_0, Int.natCast_add]
                  simp (disch := first | with_reducible rfl | assumption | omega | rfl | (simp only [go_sem]; first | done | omega)) only [go_sem, ↓reduceIte, reduceCtorEq, Nat.reduceEqDiff, Nat.reduceAdd, Nat.reduceSub, Nat.reduceMul, Nat.reduceDiv, Nat.reduceMod, Nat.reduceLeDiff, Nat.reduceLT, Nat.reduceBEq, Int.reduceEq, Int.reduceBEq, Int.reduceBNe, Int.reduceLT, Int.reduceLE, Int.reduceAdd, Int.reduceSub, Int.reduceNeg, Int.reduceToNat, Int.reducePow, Nat.reducePow, Int.reduceMul, Int.reduceDiv, ↓s_law_valid_b0, hlen, hlt, hix, hc1, hH1, f1, bl_mk, decide_eq_false e1, decide_eq_false e2, decide_eq_false e7, decide_eq_false e8, decide_eq_true e3, enterK_eq hsm, e5, Int.natCast_add, hlt1, hix1, decide_eq_true hpos, hsub, hix2, hk2, less_cmpS, decide_eq_true e6]
                · refine ⟨H1, s1, fun h => absurd h (by simp [okC, k0, k1, e1, e2, e7, e8, e3, e5, e6]), fun _ K => ?_⟩
                  rw [r_law_valid_0]
                  simp (disch := first | with_reducible rfl | assumption | omega | rfl | (simp only [go_sem]; first | done | omega)) only [go_sem, ↓reduceIte, reduceCtorEq, Nat.reduceEqDiff, Nat.reduceAdd, Nat.reduceSub, Nat.reduceMul, Nat.reduceDiv, Nat.reduceMod, Nat.reduceLeDiff, Nat.reduceLT, Nat.reduceBEq, Int.reduceEq, Int.reduceBEq, Int.reduceBNe, Int.reduceLT, Int.reduceLE, Int.reduceAdd, Int.reduceSub, Int.reduceNeg, Int.reduceToNat, Int.reducePow, Nat.reducePow, Int.reduceMul, Int.reduceDiv, ↓s_law_valid_b0, hlen, hlt, hix, hc1, hH1, f1, bl_mk, decide_eq_false e1, decide_eq_false e2, decide_eq_false e7, decide_eq_false e8, decide_eq_true e3, enterK_eq hsm, e5, Int.natCast_add, hlt1, hix1, decide_eq_true hpos, hsub, hix2, hk2, less_cmpS, decide_eq_false e6]
          · refine ⟨H1, s1, fun h => absurd h (by simp [okC, k0, k1, e1, e2, e7, e8, e3]), fun _ K => ?_⟩
            rw [r_law_valid_0]
            simp (disch := first | with_reducible rfl | assumption | omega | rfl | (simp only [go_sem]; first | done | omega)) only [go_sem, ↓reduceIte, reduceCtorEq, Nat.reduceEqDiff, Nat.reduceAdd, Nat.reduceSub, Nat.reduceMul, Nat.reduceDiv, Nat.reduceMod, Nat.reduceLeDiff, Nat.reduceLT, Nat.reduceBEq, Int.reduceEq, Int.reduceBEq, Int.reduceBNe, Int.reduceLT, Int.reduceLE, Int.reduceAdd, Int.reduceSub, Int.reduceNeg, Int.reduceToNat, Int.reducePow, Nat.reducePow, Int.reduceMul, Int.reduceDiv, ↓s_law_valid_b0, hlen, hlt, hix, hc1, hH1, f1, bl_mk, decide_eq_false e1, decide_eq_false e2, decide_eq_false e7, decide_eq_false e8, decide_eq_false e3]
theorem s_lValid_ff (l : List Cg) (v : Value) (H : AHeap) (ok : Ok H) (hr : Rd ECg H v l) (hl : l.length ≤ 1000000) (i : Nat) (h : i < l.length) (key before after : ByteArray) (hxa : l[i] = ⟨key, false, false, before, after⟩) (o : Option Cg) (ho : (if i = 0 then none else l[i - 1]?) = o) :
    ∃ H1, Still H H1 ∧ (okC o ⟨key, false, false, before, after⟩ = true → ∀ K : K, l_law_valid_0 v (.int .i64 (i : Int)) H (blkK [] 0 K) = l_law_valid_0 v (.int .i64 ((i + 1 : Nat) : Int)) H1 (blkK [] 0 K)) ∧
      (okC o ⟨key, false, false, before, after⟩ = false → ∀ K : K, l_law_valid_0 v (.int .i64 (i : Int)) H (blkK [] 0 K) = K .ret [(2, .bool false)] H1) := by
  have hlt : (i : Int) < (l.length : Int) := by omega
  have hlen := hr.lenS
  obtain ⟨b1, o1, hix, hb1, hc1, _⟩ := hr.ix (q := .i64) h
  rw [hxa] at hc1
  have hix : ixS 5 v (.int .i64 i) = some (.pointer (some ⟨b1, o1, none⟩)) := hix
  have hc1 : cutB (H.f b1) o1 5 = some [.string key, .bool false, .bool false, .string before, .string after] := hc1
  generalize hH1 : (H.push (.cells [.string (mk []), .bool false, .bool false, .string (mk []), .string (mk [])] T.api_Change true)).set H.n (.cells [.string key, .bool false, .bool false, .string before, .string after] T.api_Change true) = H1
  have s1 : Still H H1 := by rw [← hH1]; exact Fr.set ((Fr.refl H).push _) _ _ (fun h => by omega)
  have f1 : H1.f H.n = .cells [.string key, .bool false, .bool false, .string before, .string after] T.api_Change true := by rw [← hH1]; exact set_f_eq
  have ok1 := ok.fr s1
  have hsm := q_none ⟨key, false, false, before, after⟩ H1
  have k0 : chk key [before] = 0 ↔ ¬ ((bl key).length : Int) < 1 ∧ ¬ 24 < ((bl key).length : Int) ∧ ¬ 40 < ((bl before).length : Int) := chk_len key before
  have k1 : chk key [after] = 0 ↔ ¬ ((bl key).length : Int) < 1 ∧ ¬ 24 < ((bl key).length : Int) ∧ ¬ 40 < ((bl after).length : Int) := chk_len key after
  by_cases e1 : ((bl key).length : Int) < 1
  · refine ⟨H1, s1, fun h => absurd h (by simp [okC, k0, k1, e1]), fun _ K => ?_⟩
    rw [r_law_valid_0]
    simp (disch := first | with_reducible rfl | assumption | omega | rfl | (simp only [go_sem]; first | done | omega)) only [go_sem, ↓reduceIte, reduceCtorEq, Nat.reduceEqDiff, Nat.reduceAdd, Nat.reduceSub, Nat.reduceMul, Nat.reduceDiv, Nat.reduceMod, Nat.reduceLeDiff, Nat.reduceLT, Nat.reduceBEq, Int.reduceEq, Int.reduceBEq, Int.reduceBNe, Int.reduceLT, Int.reduceLE, Int.reduceAdd, Int.reduceSub, Int.reduceNeg, Int.reduceToNat, Int.reducePow, Nat.reducePow, Int.reduceMul, Int.reduceDiv, ↓s_law_valid_b0, hlen, hlt, hix, hc1, hH1, f1, bl_mk, decide_eq_true e1]
  · by_cases e2 : 24 < ((bl key).length : Int)
    · refine ⟨H1, s1, fun h => absurd h (by simp [okC, k0, k1, e1, e2]), fun _ K => ?_⟩
      rw [r_law_valid_0]
      simp (disch := first | with_reducible rfl | assumption | omega | rfl | (simp only [go_sem]; first | done | omega)) only [go_sem, ↓reduceIte, reduceCtorEq, Nat.reduceEqDiff, Nat.reduceAdd, Nat.reduceSub, Nat.reduceMul, Nat.reduceDiv, Nat.reduceMod, Nat.reduceLeDiff, Nat.reduceLT, Nat.reduceBEq, Int.reduceEq, Int.reduceBEq, Int.reduceBNe, Int.reduceLT, Int.reduceLE, Int.reduceAdd, Int.reduceSub, Int.reduceNeg, Int.reduceToNat, Int.reducePow, Nat.reducePow, Int.reduceMul, Int.reduceDiv, ↓s_law_valid_b0, hlen, hlt, hix, hc1, hH1, f1, bl_mk, decide_eq_false e1, decide_eq_true e2]
    · by_cases e7 : 40 < ((bl before).length : Int)
      · refine ⟨H1, s1, fun h => absurd h (by simp [okC, k0, k1, e1, e2, e7]), fun _ K => ?_⟩
        rw [r_law_valid_0]
        simp (disch := first | with_reducible rfl | assumption | omega | rfl | (simp only [go_sem]; first | done | omega)) only [go_sem, ↓reduceIte, reduceCtorEq, Nat.reduceEqDiff, Nat.reduceAdd, Nat.reduceSub, Nat.reduceMul, Nat.reduceDiv, Nat.reduceMod, Nat.reduceLeDiff, Nat.reduceLT, Nat.reduceBEq, Int.reduceEq, Int.reduceBEq, Int.reduceBNe, Int.reduceLT, Int.reduceLE, Int.reduceAdd, Int.reduceSub, Int.reduceNeg, Int.reduceToNat, Int.reducePow, Nat.reducePow, Int.reduceMul, Int.reduceDiv, ↓s_law_valid_b0, hlen, hlt, hix, hc1, hH1, f1, bl_mk, decide_eq_false e1, decide_eq_false e2, decide_eq_true e7]
      · by_cases e8 : 40 < ((bl after).length : Int)
        · refine ⟨H1, s1, fun h => absurd h (by simp [okC, k0, k1, e1, e2, e7, e8]), fun _ K => ?_⟩
          rw [r_law_valid_0]
          simp (disch := first | with_reducible rfl | assumption | omega | rfl | (simp only [go_sem]; first | done | omega)) only [go_sem, ↓reduceIte, reduceCtorEq, Nat.reduceEqDiff, Nat.reduceAdd, Nat.reduceSub, Nat.reduceMul, Nat.reduceDiv, Nat.reduceMod, Nat.reduceLeDiff, Nat.reduceLT, Nat.reduceBEq, Int.reduceEq, Int.reduceBEq, Int.reduceBNe, Int.reduceLT, Int.reduceLE, Int.reduceAdd, Int.reduceSub, Int.reduceNeg, Int.reduceToNat, Int.reducePow, Nat.reducePow, Int.reduceMul, Int.reduceDiv, ↓s_law_valid_b0, hlen, hlt, hix, hc1, hH1, f1, bl_mk, decide_eq_false e1, decide_eq_false e2, decide_eq_false e7, decide_eq_true e8]
        · by_cases e3 : bl before = []
          · by_cases e4 : bl after = []
            · cases e5 : noneC ⟨key, false, false, before, after⟩ with
              | true =>
                refine ⟨H1, s1, fun h => absurd h (by simp [okC, k0, k1, e1, e2, e7, e8, e3, e4, e5]), fun _ K => ?_⟩
                rw [r_law_valid_0]
                simp (disch := first | with_reducible rfl | assumption | omega | rfl | (simp only [go_sem]; first | done | omega)) only [go_sem, ↓reduceIte, reduceCtorEq, Nat.reduceEqDiff, Nat.reduceAdd, Nat.reduceSub, Nat.reduceMul, Nat.reduceDiv, Nat.reduceMod, Nat.reduceLeDiff, Nat.reduceLT, Nat.reduceBEq, Int.reduceEq, Int.reduceBEq, Int.reduceBNe, Int.reduceLT, Int.reduceLE, Int.reduceAdd, Int.reduceSub, Int.reduceNeg, Int.reduceToNat, Int.reducePow, Nat.reducePow, Int.reduceMul, Int.reduceDiv, ↓s_law_valid_b0, hlen, hlt, hix, hc1, hH1, f1, bl_mk, decide_eq_false e1, decide_eq_false e2, decide_eq_false e7, decide_eq_false e8, decide_eq_true e3, decide_eq_true e4, enterK_eq hsm, e5]
              | false =>
                cases i with
                | zero =>
                  rw [if_pos rfl] at ho
                  subst ho
                  have hlt0 : (0 : Int) < (l.length : Int) := hlt
                  have hix0 : ixS 5 v (.int .i64 0) = some (.pointer (some ⟨b1, o1, none⟩)) := hix
                  refine ⟨H1, s1, fun _ K => ?_, fun h => absurd h (by simp [okC, k0, k1, e1, e2, e7, e8, e3, e4, e5])⟩
                  rw [r_law_valid_0, Int.natCast_add]
                  simp (disch := first | with_reducible rfl | assumption | omega | rfl | (simp only [go_sem]; first | done | omega)) only [go_sem, ↓reduceIte, reduceCtorEq, Nat.reduceEqDiff, Nat.reduceAdd, Nat.reduceSub, Nat.reduceMul, Nat.reduceDiv, Nat.reduceMod, Nat.reduceLeDiff, Nat.reduceLT, Nat.reduceBEq, Int.reduceEq, Int.reduceBEq, Int.reduceBNe, Int.reduceLT, Int.reduceLE, Int.reduceAdd, Int.reduceSub, Int.reduceNeg, Int.reduceToNat, Int.reducePow, Nat.reducePow, Int.reduceMul, Int.reduceDiv, ↓s_law_valid_b0, hlen, hlt, hix, hc1, hH1, f1, bl_mk, decide_eq_false e1, decide_eq_false e2, decide_eq_false e7, decide_eq_false e8, decide_eq_true e3, decide_eq_true e4, enterK_eq hsm, e5, Int.natCast_zero, hlt0, hix0]
                | succ j =>
                  have hj : j < l.length := by omega
                  rw [if_neg (by omega), Nat.add_sub_cancel, List.getElem?_eq_getElem hj] at ho
                  subst ho
                  obtain ⟨b2, o2, hix2, _, hc2, _⟩ := (hr.still s1).ix (q := .i64) hj
                  have hix2 : ixS 5 v (.int .i64 j) = some (.pointer (some ⟨b2, o2, none⟩)) := hix2
                  have hk2 : cellB (H1.f b2) o2 = some (.string l[j].key) := cutB_cell hc2 (i := 0) (by decide)
                  have hpos : (0 : Int) < (j : Int) + 1 := by omega
                  have hsub : (j : Int) + 1 - 1 = (j : Int) := by omega
                  have hlt1 : (j : Int) + 1 < (l.length : Int) := by omega
                  have hix1 : ixS 5 v (.int .i64 ((j : Int) + 1)) = some (.pointer (some ⟨b1, o1, none⟩)) := hix
                  by_cases e6 : cmpS l[j].key key < 0
                  · refine ⟨H1, s1, fun _ K => ?_, fun h => absurd h (by simp [okC, k0, k1, e1, e2, e7, e8, e3, e4, e5, e6])⟩
                    rw [r_law_valid_0, Int.natCast_add]
                    simp (disch := first | with_reducible rfl | assumption | omega | rfl | (simp only [go_sem]; first | done | omega)) only [go_sem, ↓reduceIte, reduceCtorEq, Nat.reduceEqDiff, Nat.reduceAdd, Nat.reduceSub, Nat.reduceMul, Nat.reduceDiv, Nat.reduceMod, Nat.reduceLeDiff, Nat.reduceLT, Nat.reduceBEq, Int.reduceEq, Int.reduceBEq, Int.reduceBNe, Int.reduceLT, Int.reduceLE, Int.reduceAdd, Int.reduceSub, Int.reduceNeg, Int.reduceToNat, Int.reducePow, Nat.reducePow, Int.reduceMul, Int.reduceDiv, ↓s_law_valid_b0, hlen, hlt, hix, hc1, hH1, f1, bl_mk, decide_eq_false e1, decide_eq_false e2, decide_eq_false e7, decide_eq_false e8, decide_eq_true e3, decide_eq_true e4, enterK_eq hsm, e5, Int.natCast_add, hlt1, hix1, decide_eq_true hpos, hsub, hix2, hk2, less_cmpS, decide_eq_true e6]
                  · refine ⟨H1, s1, fun h => absurd h (by simp [okC, k0, k1, e1, e2, e7, e8, e3, e4, e5, e6]), fun _ K => ?_⟩
                    rw [r_law_valid_0]
                    simp (disch := first | with_reducible rfl | assumption | omega | rfl | (simp only [go_sem]; first | done | omega)) only [go_sem, ↓reduceIte, reduceCtorEq, Nat.reduceEqDiff, Nat.reduceAdd, Nat.reduceSub, Nat.reduceMul, Nat.reduceDiv, Nat.reduceMod, Nat.reduceLeDiff, Nat.reduceLT, Nat.reduceBEq, Int.reduceEq, Int.reduceBEq, Int.reduceBNe, Int.reduceLT, Int.reduceLE, Int.reduceAdd, Int.reduceSub, Int.reduceNeg, Int.reduceToNat, Int.reducePow, Nat.reducePow, Int.reduceMul, Int.reduceDiv, ↓s_law_valid_b0, hlen, hlt, hix, hc1, hH1, f1, bl_mk, decide_eq_false e1, decide_eq_false e2, decide_eq_false e7, decide_eq_false e8, decide_eq_true e3, decide_eq_true e4, enterK_eq hsm, e5, Int.natCast_add, hlt1, hix1, decide_eq_true hpos, hsub, hix2, hk2, less_cmpS, decide_eq_false e6]
            · refine ⟨H1, s1, fun h => absurd h (by simp [okC, k0, k1, e1, e2, e7, e8, e3, e4]), fun _ K => ?_⟩
              rw [r_law_valid_0]
              simp (disch := first | with_reducible rfl | assumption | omega | rfl | (simp only [go_sem]; first | done | omega)) only [go_sem, ↓reduceIte, reduceCtorEq, Nat.reduceEqDiff, Nat.reduceAdd, Nat.reduceSub, Nat.reduceMul, Nat.reduceDiv, Nat.reduceMod, Nat.reduceLeDiff, Nat.reduceLT, Nat.reduceBEq, Int.reduceEq, Int.reduceBEq, Int.reduceBNe, Int.reduceLT, Int.reduceLE, Int.reduceAdd, Int.reduceSub, Int.reduceNeg, Int.reduceToNat, Int.reducePow, Nat.reducePow, Int.reduceMul, Int.reduceDiv, ↓s_law_valid_b0, hlen, hlt, hix, hc1, hH1, f1, bl_mk, decide_eq_false e1, decide_eq_false e2, decide_eq_false e7, decide_eq_false e8, decide_eq_true e3, decide_eq_false e4]
          · refine ⟨H1, s1, fun h => absurd h (by simp [okC, k0, k1, e1, e2, e7, e8, e3]), fun _ K => ?_⟩
            rw [r_law_valid_0]
            simp (disch := first | with_reducible rfl | assumption | omega | rfl | (simp only [go_sem]; first | done | omega)) only [go_sem, ↓reduceIte, reduceCtorEq, Nat.reduceEqDiff, Nat.reduceAdd, Nat.reduceSub, Nat.reduceMul, Nat.reduceDiv, Nat.reduceMod, Nat.reduceLeDiff, Nat.reduceLT, Nat.reduceBEq, Int.reduceEq, Int.reduceBEq, Int.reduceBNe, Int.reduceLT, Int.reduceLE, Int.reduceAdd, Int.reduceSub, Int.reduceNeg, Int.reduceToNat, Int.reducePow, Nat.reducePow, Int.reduceMul, Int.reduceDiv, ↓s_law_valid_b0, hlen, hlt, hix, hc1, hH1, f1, bl_mk, decide_eq_false e1, decide_eq_false e2, decide_eq_false e7, decide_eq_false e8, decide_eq_false e3]
theorem s_lValid (l : List Cg) (v : Value) (H : AHeap) (ok : Ok H) (hr : Rd ECg H v l) (hl : l.length ≤ 1000000) (i : Nat) (h : i < l.length) (key before after : ByteArray) (was is : Bool) (hxa : l[i] = ⟨key, was, is, before, after⟩) (o : Option Cg) (ho : (if i = 0 then none else l[i - 1]?) = o) :
    ∃ H1, Still H H1 ∧ (okC o ⟨key, was, is, before, after⟩ = true → ∀ K : K, l_law_valid_0 v (.int .i64 (i : Int)) H (blkK [] 0 K) = l_law_valid_0 v (.int .i64 ((i + 1 : Nat) : Int)) H1 (blkK [] 0 K)) ∧
      (okC o ⟨key, was, is, before, after⟩ = false → ∀ K : K, l_law_valid_0 v (.int .i64 (i : Int)) H (blkK [] 0 K) = K .ret [(2, .bool false)] H1) := by
  cases was <;> cases is
  · exact s_lValid_ff l v H ok hr hl i h key before after hxa o ho
  · exact s_lValid_ft l v H ok hr hl i h key before after hxa o ho
  · exact s_lValid_tf l v H ok hr hl i h key before after hxa o ho
  · exact s_lValid_tt l v H ok hr hl i h key before after hxa o ho

theorem l_Valid (l : List Cg) (v : Value) (Hz : AHeap) (hr0 : Rd ECg Hz v l) (hl : l.length ≤ 1000000) : ∀ (x : List Cg) (i : Nat) (H : AHeap) (o : Option Cg), l.drop i = x → Ok H → Still Hz H → (if i = 0 then none else l[i - 1]?) = o → ∃ H', Still Hz H' ∧
    (okL o x = true → ∀ K : K, l_delta_Valid_0 v v (.int .i64 (l.length : Int)) (.int .i64 (i : Int)) H (blkK [] 0 K) = K .normal [] H') ∧ (okL o x = false → ∀ K : K, l_delta_Valid_0 v v (.int .i64 (l.length : Int)) (.int .i64 (i : Int)) H (blkK [] 0 K) = K .ret [(2, .bool false)] H')
  | [], i, H, o, hx, ok, hs, ho => by
    have h : l.length ≤ i := List.drop_eq_nil_iff.1 hx
    have hlt : ¬ (i : Int) < (l.length : Int) := by omega
    refine ⟨H, hs, fun _ K => ?_, fun h => by cases h⟩
    rw [r_delta_Valid_0]
    simp (disch := first | with_reducible rfl | assumption | omega | rfl | (simp only [go_sem]; first | done | omega)) only [go_sem, ↓reduceIte, reduceCtorEq, Nat.reduceEqDiff, Nat.reduceAdd, Nat.reduceSub, Nat.reduceMul, Nat.reduceDiv, Nat.reduceMod, Nat.reduceLeDiff, Nat.reduceLT, Nat.reduceBEq, Int.reduceEq, Int.reduceBEq, Int.reduceBNe, Int.reduceLT, Int.reduceLE, Int.reduceAdd, Int.reduceSub, Int.reduceNeg, Int.reduceToNat, Int.reducePow, Nat.reducePow, Int.reduceMul, Int.reduceDiv, ↓s_delta_Valid_b0, hlt]
  | c :: x, i, H, o, hx, ok, hs, ho => by
    obtain ⟨h, hxa, hx'⟩ := drop_cons hx
    obtain ⟨H1, s1, g1, g2⟩ := s_dValid l v H ok (hr0.still hs) hl i h c.key c.before c.after c.was c.is hxa o ho
    obtain ⟨H', hs', r1, r2⟩ := l_Valid l v Hz hr0 hl x (i + 1) H1 (some c) hx' (ok.fr s1) (hs.then s1 fun _ _ h => h) (by rw [if_neg (by omega), Nat.add_sub_cancel, List.getElem?_eq_getElem h, hxa])
    show ∃ H', Still Hz H' ∧ ((okC o c && okL (some c) x) = true → _) ∧ ((okC o c && okL (some c) x) = false → _)
    cases hc : okC o c with
    | false => exact ⟨H1, hs.then s1 fun _ _ h => h, fun h => by simp at h, fun _ => g2 hc⟩
    | true =>
      rw [Bool.true_and]
      exact ⟨H', hs', fun h K => (g1 hc K).trans (r1 h K), fun h K => (g1 hc K).trans (r2 h K)⟩
theorem l_lvalid (l : List Cg) (v : Value) (Hz : AHeap) (hr0 : Rd ECg Hz v l) (hl : l.length ≤ 1000000) : ∀ (x : List Cg) (i : Nat) (H : AHeap) (o : Option Cg), l.drop i = x → Ok H → Still Hz H → (if i = 0 then none else l[i - 1]?) = o → ∃ H', Still Hz H' ∧
    (okL o x = true → ∀ K : K, l_law_valid_0 v (.int .i64 (i : Int)) H (blkK [] 0 K) = K .normal [] H') ∧ (okL o x = false → ∀ K : K, l_law_valid_0 v (.int .i64 (i : Int)) H (blkK [] 0 K) = K .ret [(2, .bool false)] H')
  | [], i, H, o, hx, ok, hs, ho => by
    have h : l.length ≤ i := List.drop_eq_nil_iff.1 hx
    have hlt : ¬ (i : Int) < (l.length : Int) := by omega
    have hlen := hr0.lenS
    refine ⟨H, hs, fun _ K => ?_, fun h => by cases h⟩
    rw [r_law_valid_0]
    simp (disch := first | with_reducible rfl | assumption | omega | rfl | (simp only [go_sem]; first | done | omega)) only [go_sem, ↓reduceIte, reduceCtorEq, Nat.reduceEqDiff, Nat.reduceAdd, Nat.reduceSub, Nat.reduceMul, Nat.reduceDiv, Nat.reduceMod, Nat.reduceLeDiff, Nat.reduceLT, Nat.reduceBEq, Int.reduceEq, Int.reduceBEq, Int.reduceBNe, Int.reduceLT, Int.reduceLE, Int.reduceAdd, Int.reduceSub, Int.reduceNeg, Int.reduceToNat, Int.reducePow, Nat.reducePow, Int.reduceMul, Int.reduceDiv, ↓s_law_valid_b0, hlen, hlt]
  | c :: x, i, H, o, hx, ok, hs, ho => by
    obtain ⟨h, hxa, hx'⟩ := drop_cons hx
    obtain ⟨H1, s1, g1, g2⟩ := s_lValid l v H ok (hr0.still hs) hl i h c.key c.before c.after c.was c.is hxa o ho
    obtain ⟨H', hs', r1, r2⟩ := l_lvalid l v Hz hr0 hl x (i + 1) H1 (some c) hx' (ok.fr s1) (hs.then s1 fun _ _ h => h) (by rw [if_neg (by omega), Nat.add_sub_cancel, List.getElem?_eq_getElem h, hxa])
    show ∃ H', Still Hz H' ∧ ((okC o c && okL (some c) x) = true → _) ∧ ((okC o c && okL (some c) x) = false → _)
    cases hc : okC o c with
    | false => exact ⟨H1, hs.then s1 fun _ _ h => h, fun h => by simp at h, fun _ => g2 hc⟩
    | true =>
      rw [Bool.true_and]
      exact ⟨H', hs', fun h K => (g1 hc K).trans (r1 h K), fun h K => (g1 hc K).trans (r2 h K)⟩

theorem q_Valid (l : List Cg) (v : Value) (H : AHeap) (ok : Ok H) (hr : Rd ECg H v l) (hl : l.length ≤ 1000000) : CC F.delta_Valid [v] H = some (.bool (validC l), H) := by
  have hlen := hr.lenS
  unfold validC
  by_cases h1 : l.length ≤ 20000
  · have h1' : ¬ 20000 < (l.length : Int) := by omega
    rw [decide_eq_true h1, Bool.true_and]
    obtain ⟨H', hs, g1, g2⟩ := l_Valid l v H hr hl l 0 H none rfl ok (Fr.refl H) rfl
    refine pure_of (H' := H') ?_ (d_delta_Valid _ H) rfl hs
    cases h2 : okL none l with
    | true =>
      simp (disch := first | with_reducible rfl | assumption | omega | rfl | (simp only [go_sem]; first | done | omega)) only [go_sem, ↓reduceIte, reduceCtorEq, Nat.reduceEqDiff, Nat.reduceAdd, Nat.reduceSub, Nat.reduceMul, Nat.reduceDiv, Nat.reduceMod, Nat.reduceLeDiff, Nat.reduceLT, Nat.reduceBEq, Int.reduceEq, Int.reduceBEq, Int.reduceBNe, Int.reduceLT, Int.reduceLE, Int.reduceAdd, Int.reduceSub, Int.reduceNeg, Int.reduceToNat, Int.reducePow, Nat.reducePow, Int.reduceMul, Int.reduceDiv, ↓s_delta_Valid, hlen, decide_eq_false h1']
      refine (g1 h2 _).trans ?_
      simp (disch := first | with_reducible rfl | assumption | omega | rfl | (simp only [go_sem]; first | done | omega)) only [go_sem, ↓reduceIte, reduceCtorEq, Nat.reduceEqDiff, Nat.reduceAdd, Nat.reduceSub, Nat.reduceMul, Nat.reduceDiv, Nat.reduceMod, Nat.reduceLeDiff, Nat.reduceLT, Nat.reduceBEq, Int.reduceEq, Int.reduceBEq, Int.reduceBNe, Int.reduceLT, Int.reduceLE, Int.reduceAdd, Int.reduceSub, Int.reduceNeg, Int.reduceToNat, Int.reducePow, Nat.reducePow, Int.reduceMul, Int.reduceDiv]
    | false =>
      simp (disch := first | with_reducible rfl | assumption | omega | rfl | (simp only [go_sem]; first | done | omega)) only [go_sem, ↓reduceIte, reduceCtorEq, Nat.reduceEqDiff, Nat.reduceAdd, Nat.reduceSub, Nat.reduceMul, Nat.reduceDiv, Nat.reduceMod, Nat.reduceLeDiff, Nat.reduceLT, Nat.reduceBEq, Int.reduceEq, Int.reduceBEq, Int.reduceBNe, Int.reduceLT, Int.reduceLE, Int.reduceAdd, Int.reduceSub, Int.reduceNeg, Int.reduceToNat, Int.reducePow, Nat.reducePow, Int.reduceMul, Int.reduceDiv, ↓s_delta_Valid, hlen, decide_eq_false h1']
      refine (g2 h2 _).trans ?_
      simp (disch := first | with_reducible rfl | assumption | omega | rfl | (simp only [go_sem]; first | done | omega)) only [go_sem, ↓reduceIte, reduceCtorEq, Nat.reduceEqDiff, Nat.reduceAdd, Nat.reduceSub, Nat.reduceMul, Nat.reduceDiv, Nat.reduceMod, Nat.reduceLeDiff, Nat.reduceLT, Nat.reduceBEq, Int.reduceEq, Int.reduceBEq, Int.reduceBNe, Int.reduceLT, Int.reduceLE, Int.reduceAdd, Int.reduceSub, Int.reduceNeg, Int.reduceToNat, Int.reducePow, Nat.reducePow, Int.reduceMul, Int.reduceDiv]
  · have h1' : 20000 < (l.length : Int) := by omega
    rw [decide_eq_false h1, Bool.false_and]
    apply pure_of _ (d_delta_Valid _ H) rfl
    rotate_left 2
    · simp (disch := first | with_reducible rfl | assumption | omega | rfl | (simp only [go_sem]; first | done | omega)) only [go_sem, ↓reduceIte, reduceCtorEq, Nat.reduceEqDiff, Nat.reduceAdd, Nat.reduceSub, Nat.reduceMul, Nat.reduceDiv, Nat.reduceMod, Nat.reduceLeDiff, Nat.reduceLT, Nat.reduceBEq, Int.reduceEq, Int.reduceBEq, Int.reduceBNe, Int.reduceLT, Int.reduceLE, Int.reduceAdd, Int.reduceSub, Int.reduceNeg, Int.reduceToNat, Int.reducePow, Nat.reducePow, Int.reduceMul, Int.reduceDiv, ↓s_delta_Valid, hlen, decide_eq_true h1']
      rfl
    · (repeat (first | exact Fr.refl _ | refine Fr.push ?_ _ | refine Fr.set ?_ _ _ (by intro h; first | omega | (simp only [go_sem] at h; omega))))
theorem q_lvalid (l : List Cg) (v : Value) (H : AHeap) (ok : Ok H) (hr : Rd ECg H v l) (hl : l.length ≤ 1000000) : CC F.law_valid [v] H = some (.bool (okL none l), H) := by
  obtain ⟨H', hs, g1, g2⟩ := l_lvalid l v H hr hl l 0 H none rfl ok (Fr.refl H) rfl
  refine pure_of (H' := H') ?_ (d_law_valid _ H) rfl hs
  cases h2 : okL none l with
  | true =>
    simp (disch := first | with_reducible rfl | assumption | omega | rfl | (simp only [go_sem]; first | done | omega)) only [go_sem, ↓reduceIte, reduceCtorEq, Nat.reduceEqDiff, Nat.reduceAdd, Nat.reduceSub, Nat.reduceMul, Nat.reduceDiv, Nat.reduceMod, Nat.reduceLeDiff, Nat.reduceLT, Nat.reduceBEq, Int.reduceEq, Int.reduceBEq, Int.reduceBNe, Int.reduceLT, Int.reduceLE, Int.reduceAdd, Int.reduceSub, Int.reduceNeg, Int.reduceToNat, Int.reducePow, Nat.reducePow, Int.reduceMul, Int.reduceDiv, ↓s_law_valid]
    refine (g1 h2 _).trans ?_
    simp (disch := first | with_reducible rfl | assumption | omega | rfl | (simp only [go_sem]; first | done | omega)) only [go_sem, ↓reduceIte, reduceCtorEq, Nat.reduceEqDiff, Nat.reduceAdd, Nat.reduceSub, Nat.reduceMul, Nat.reduceDiv, Nat.reduceMod, Nat.reduceLeDiff, Nat.reduceLT, Nat.reduceBEq, Int.reduceEq, Int.reduceBEq, Int.reduceBNe, Int.reduceLT, Int.reduceLE, Int.reduceAdd, Int.reduceSub, Int.reduceNeg, Int.reduceToNat, Int.reducePow, Nat.reducePow, Int.reduceMul, Int.reduceDiv]
  | false =>
    simp (disch := first | with_reducible rfl | assumption | omega | rfl | (simp only [go_sem]; first | done | omega)) only [go_sem, ↓reduceIte, reduceCtorEq, Nat.reduceEqDiff, Nat.reduceAdd, Nat.reduceSub, Nat.reduceMul, Nat.reduceDiv, Nat.reduceMod, Nat.reduceLeDiff, Nat.reduceLT, Nat.reduceBEq, Int.reduceEq, Int.reduceBEq, Int.reduceBNe, Int.reduceLT, Int.reduceLE, Int.reduceAdd, Int.reduceSub, Int.reduceNeg, Int.reduceToNat, Int.reducePow, Nat.reducePow, Int.reduceMul, Int.reduceDiv, ↓s_law_valid]
    refine (g2 h2 _).trans ?_
    simp (disch := first | with_reducible rfl | assumption | omega | rfl | (simp only [go_sem]; first | done | omega)) only [go_sem, ↓reduceIte, reduceCtorEq, Nat.reduceEqDiff, Nat.reduceAdd, Nat.reduceSub, Nat.reduceMul, Nat.reduceDiv, Nat.reduceMod, Nat.reduceLeDiff, Nat.reduceLT, Nat.reduceBEq, Int.reduceEq, Int.reduceBEq, Int.reduceBNe, Int.reduceLT, Int.reduceLE, Int.reduceAdd, Int.reduceSub, Int.reduceNeg, Int.reduceToNat, Int.reducePow, Nat.reducePow, Int.reduceMul, Int.reduceDiv]

end Go.Proofs.Ytlbieadnfgfhlaa

/-
  Chapter 49: lists of changes that are equal; few pairs; the map with some pairs.
  Conditions: none. By an AI agent.
-/
set_option maxRecDepth 10000
set_option linter.unusedSimpArgs false
set_option linter.unusedVariables false
namespace Go.Proofs.Ytlbieadnfgfhlaa
open Go Eng

theorem cg_ne {ox oy : Operand} {a b : Cg} : xbin Try.prog .neq T.api_Change ox oy (cgV a) (cgV b) = some (.bool (!decide (a = b))) := by
  have h := agg_ne (P := Try.prog) (t := T.api_Change) (xs := [.string a.key, .bool a.was, .bool a.is, .string a.before, .string a.after]) (ys := [.string b.key, .bool b.was, .bool b.is, .string b.before, .string b.after]) (ox := ox) (oy := oy) Try.underlying26 (by kernel_rfl) (by kernel_rfl) (by kernel_rfl) rfl rfl
  rw [show cgV a = .agg ⟨[.string a.key, .bool a.was, .bool a.is, .string a.before, .string a.after]⟩ from rfl, show cgV b = .agg ⟨[.string b.key, .bool b.was, .bool b.is, .string b.before, .string b.after]⟩ from rfl, h]
  have e : ceqs [.string a.key, .bool a.was, .bool a.is, .string a.before, .string a.after] [.string b.key, .bool b.was, .bool b.is, .string b.before, .string b.after] = decide (a = b) := by
    rw [Bool.eq_iff_iff, decide_eq_true_iff, cg_ext]
    simp only [ceqs, ceq, Bool.and_eq_true, beq_iff_eq, decide_eq_true_iff, and_true]
    constructor
    · rintro ⟨h1, h2, h3, h4, h5⟩
      exact ⟨bl_inj h1, h2, h3, bl_inj h4, bl_inj h5⟩
    · rintro ⟨h1, h2, h3, h4, h5⟩
      exact ⟨by rw [h1], h2, h3, by rw [h4], by rw [h5]⟩
  rw [e]

theorem l_lsame (l : List Cg) (v w : Value) (H : AHeap) (hv : Rd ECg H v l) (hw : Rd ECg H w l) (hl : l.length ≤ 1000000) (K : K) : ∀ (x : List Cg) (i : Nat), l.drop i = x →
    l_law_same_0 v w (.int .i64 (i : Int)) H (blkK [] 0 K) = K .normal [] H
  | [], i, hx => by
    have h : l.length ≤ i := List.drop_eq_nil_iff.1 hx
    have hlt : ¬ (i : Int) < (l.length : Int) := by omega
    have hlen := hv.lenS
    rw [r_law_same_0]
    simp (disch := first | with_reducible rfl | assumption | omega | rfl | (simp only [go_sem]; first | done | omega)) only [go_sem, ↓reduceIte, reduceCtorEq, Nat.reduceEqDiff, Nat.reduceAdd, Nat.reduceSub, Nat.reduceMul, Nat.reduceDiv, Nat.reduceMod, Nat.reduceLeDiff, Nat.reduceLT, Nat.reduceBEq, Int.reduceEq, Int.reduceBEq, Int.reduceBNe, Int.reduceLT, Int.reduceLE, Int.reduceAdd, Int.reduceSub, Int.reduceNeg, Int.reduceToNat, Int.reducePow, Nat.reducePow, Int.reduceMul, Int.reduceDiv, ↓s_law_same_b0, hlen, hlt]
  | a :: x, i, hx => by
    obtain ⟨h, hxa, hx'⟩ := drop_cons hx
    have hlt : (i : Int) < (l.length : Int) := by omega
    have hlen := hv.lenS
    obtain ⟨b1, o1, hix1, _, hc1, _⟩ := hv.ix (q := .i64) h
    obtain ⟨b2, o2, hix2, _, hc2, _⟩ := hw.ix (q := .i64) h
    rw [hxa] at hc1 hc2
    have hix1 : ixS 5 v (.int .i64 i) = some (.pointer (some ⟨b1, o1, none⟩)) := hix1
    have hix2 : ixS 5 w (.int .i64 i) = some (.pointer (some ⟨b2, o2, none⟩)) := hix2
    have hc1 : cutB (H.f b1) o1 5 = some [.string a.key, .bool a.was, .bool a.is, .string a.before, .string a.after] := hc1
    have hc2 : cutB (H.f b2) o2 5 = some [.string a.key, .bool a.was, .bool a.is, .string a.before, .string a.after] := hc2
    have ih := l_lsame l v w H hv hw hl K x (i + 1) hx'
    have hne : ∀ ox oy, xbin Try.prog .neq T.api_Change ox oy (.agg #[.string a.key, .bool a.was, .bool a.is, .string a.before, .string a.after]) (.agg #[.string a.key, .bool a.was, .bool a.is, .string a.before, .string a.after]) = some (.bool false) := fun ox oy => by
      have := cg_ne (ox := ox) (oy := oy) (a := a) (b := a)
      rw [decide_eq_true rfl] at this
      exact this
    rw [Int.natCast_add] at ih
    rw [r_law_same_0]
    simp (disch := first | with_reducible rfl | assumption | omega | rfl | (simp only [go_sem]; first | done | omega)) only [go_sem, ↓reduceIte, reduceCtorEq, Nat.reduceEqDiff, Nat.reduceAdd, Nat.reduceSub, Nat.reduceMul, Nat.reduceDiv, Nat.reduceMod, Nat.reduceLeDiff, Nat.reduceLT, Nat.reduceBEq, Int.reduceEq, Int.reduceBEq, Int.reduceBNe, Int.reduceLT, Int.reduceLE, Int.reduceAdd, Int.reduceSub, Int.reduceNeg, Int.reduceToNat, Int.reducePow, Nat.reducePow, Int.reduceMul, Int.reduceDiv, ↓s_law_same_b0, hlen, hlt, hix1, hc1, hix2, hc2, hne]
    exact ih
theorem q_lsame (l : List Cg) (v w : Value) (H : AHeap) (hv : Rd ECg H v l) (hw : Rd ECg H w l) (hl : l.length ≤ 1000000) : CC F.law_same [v, w] H = some (.bool true, H) := by
  have h1 := hv.lenS
  have h2 := hw.lenS
  refine pure_of (H' := H) ?_ (d_law_same _ _ H) rfl (Fr.refl H)
  simp (disch := first | with_reducible rfl | assumption | omega | rfl | (simp only [go_sem]; first | done | omega)) only [go_sem, ↓reduceIte, reduceCtorEq, Nat.reduceEqDiff, Nat.reduceAdd, Nat.reduceSub, Nat.reduceMul, Nat.reduceDiv, Nat.reduceMod, Nat.reduceLeDiff, Nat.reduceLT, Nat.reduceBEq, Int.reduceEq, Int.reduceBEq, Int.reduceBNe, Int.reduceLT, Int.reduceLE, Int.reduceAdd, Int.reduceSub, Int.reduceNeg, Int.reduceToNat, Int.reducePow, Nat.reducePow, Int.reduceMul, Int.reduceDiv, ↓s_law_same, h1, h2]
  refine (l_lsame l v w H hv hw hl _ l 0 rfl).trans ?_
  simp (disch := first | with_reducible rfl | assumption | omega | rfl | (simp only [go_sem]; first | done | omega)) only [go_sem, ↓reduceIte, reduceCtorEq, Nat.reduceEqDiff, Nat.reduceAdd, Nat.reduceSub, Nat.reduceMul, Nat.reduceDiv, Nat.reduceMod, Nat.reduceLeDiff, Nat.reduceLT, Nat.reduceBEq, Int.reduceEq, Int.reduceBEq, Int.reduceBNe, Int.reduceLT, Int.reduceLE, Int.reduceAdd, Int.reduceSub, Int.reduceNeg, Int.reduceToNat, Int.reducePow, Nat.reducePow, Int.reduceMul, Int.reduceDiv]
theorem q_gives (l : List Cg) (v w : Value) (e : Int) (H : AHeap) (hv : Rd ECg H v l) (hw : Rd ECg H w l) (hl : l.length ≤ 1000000) : CC F.law_gives [v, .int .i64 e, w, .int .i64 e] H = some (.bool true, H) := by
  have hs := q_lsame l v w H hv hw hl
  apply pure_of _ (d_law_gives _ _ _ _ H) rfl
  rotate_left 2
  · simp (disch := first | with_reducible rfl | assumption | omega | rfl | (simp only [go_sem]; first | done | omega)) only [go_sem, ↓reduceIte, reduceCtorEq, Nat.reduceEqDiff, Nat.reduceAdd, Nat.reduceSub, Nat.reduceMul, Nat.reduceDiv, Nat.reduceMod, Nat.reduceLeDiff, Nat.reduceLT, Nat.reduceBEq, Int.reduceEq, Int.reduceBEq, Int.reduceBNe, Int.reduceLT, Int.reduceLE, Int.reduceAdd, Int.reduceSub, Int.reduceNeg, Int.reduceToNat, Int.reducePow, Nat.reducePow, Int.reduceMul, Int.reduceDiv, ↓s_law_gives, enterK_eq hs]
    rfl
  · (repeat (first | exact Fr.refl _ | refine Fr.push ?_ _ | refine Fr.set ?_ _ _ (by intro h; first | omega | (simp only [go_sem] at h; omega))))

/-! ### pairs -/
theorem l_pairsn (l : List Pr) (v : Value) (n : Nat) (H : AHeap) (hr : Rd EPr H v l) (hn : n ≤ 1000) : ∀ (x : List Pr) (i : Nat), l.drop i = x →
    (∀ K : K, l_law_pairs_0 v (.int .i64 (n : Int)) (.int .i64 (i : Int)) H (blkK [0, 1] 0 K) = K .normal [(0, v), (1, .int .i64 (n : Int))] H) ∨ (∀ K : K, l_law_pairs_0 v (.int .i64 (n : Int)) (.int .i64 (i : Int)) H (blkK [0, 1] 0 K) = K .ret [(4, .bool false)] H)
  | [], i, hx => by
    have h : l.length ≤ i := List.drop_eq_nil_iff.1 hx
    have hlt : ¬ (i : Int) < (l.length : Int) := by omega
    have hlen := hr.lenS
    refine .inl fun K => ?_
    rw [r_law_pairs_0]
    simp (disch := first | with_reducible rfl | assumption | omega | rfl | (simp only [go_sem]; first | done | omega)) only [go_sem, ↓reduceIte, reduceCtorEq, Nat.reduceEqDiff, Nat.reduceAdd, Nat.reduceSub, Nat.reduceMul, Nat.reduceDiv, Nat.reduceMod, Nat.reduceLeDiff, Nat.reduceLT, Nat.reduceBEq, Int.reduceEq, Int.reduceBEq, Int.reduceBNe, Int.reduceLT, Int.reduceLE, Int.reduceAdd, Int.reduceSub, Int.reduceNeg, Int.reduceToNat, Int.reducePow, Nat.reducePow, Int.reduceMul, Int.reduceDiv, ↓s_law_pairs_b0, hlen, hlt]
  | a :: x, i, hx => by
    obtain ⟨h, hxa, hx'⟩ := drop_cons hx
    have hlt : (i : Int) < (l.length : Int) := by omega
    have hlen := hr.lenS
    obtain ⟨b1, o1, hix, hb1, hc1, _⟩ := hr.ix (q := .i64) h
    rw [hxa] at hc1
    have hix : ixS 2 v (.int .i64 i) = some (.pointer (some ⟨b1, o1, none⟩)) := hix
    have hc2 : cellB (H.f b1) o1 = some (.string a.key) := cutB_cell hc1 (i := 0) (by decide)
    have hc3 : cellB (H.f b1) (o1 + 1) = some (.string a.value) := cutB_cell hc1 (i := 1) (by decide)
    by_cases hi : (i : Int) < (n : Int)
    · by_cases h1 : 30 < ((bl a.key).length : Int)
      · refine .inr fun K => ?_
        rw [r_law_pairs_0]
        simp (disch := first | with_reducible rfl | assumption | omega | rfl | (simp only [go_sem]; first | done | omega)) only [go_sem, ↓reduceIte, reduceCtorEq, Nat.reduceEqDiff, Nat.reduceAdd, Nat.reduceSub, Nat.reduceMul, Nat.reduceDiv, Nat.reduceMod, Nat.reduceLeDiff, Nat.reduceLT, Nat.reduceBEq, Int.reduceEq, Int.reduceBEq, Int.reduceBNe, Int.reduceLT, Int.reduceLE, Int.reduceAdd, Int.reduceSub, Int.reduceNeg, Int.reduceToNat, Int.reducePow, Nat.reducePow, Int.reduceMul, Int.reduceDiv, ↓s_law_pairs_b0, hlen, hlt, hi, hix, hc2, decide_eq_true h1]
      · by_cases h2 : 44 < ((bl a.value).length : Int)
        · refine .inr fun K => ?_
          rw [r_law_pairs_0]
          simp (disch := first | with_reducible rfl | assumption | omega | rfl | (simp only [go_sem]; first | done | omega)) only [go_sem, ↓reduceIte, reduceCtorEq, Nat.reduceEqDiff, Nat.reduceAdd, Nat.reduceSub, Nat.reduceMul, Nat.reduceDiv, Nat.reduceMod, Nat.reduceLeDiff, Nat.reduceLT, Nat.reduceBEq, Int.reduceEq, Int.reduceBEq, Int.reduceBNe, Int.reduceLT, Int.reduceLE, Int.reduceAdd, Int.reduceSub, Int.reduceNeg, Int.reduceToNat, Int.reducePow, Nat.reducePow, Int.reduceMul, Int.reduceDiv, ↓s_law_pairs_b0, hlen, hlt, hi, hix, hc2, hc3, decide_eq_false h1, decide_eq_true h2]
        · have step : ∀ K : K, l_law_pairs_0 v (.int .i64 (n : Int)) (.int .i64 (i : Int)) H (blkK [0, 1] 0 K) = l_law_pairs_0 v (.int .i64 (n : Int)) (.int .i64 ((i + 1 : Nat) : Int)) H (blkK [0, 1] 0 K) := fun K => by
            rw [r_law_pairs_0, Int.natCast_add]
            simp (disch := first | with_reducible rfl | assumption | omega | rfl | (simp only [go_sem]; first | done | omega)) only [go_sem, ↓reduceIte, reduceCtorEq, Nat.reduceEqDiff, Nat.reduceAdd, Nat.reduceSub, Nat.reduceMul, Nat.reduceDiv, Nat.reduceMod, Nat.reduceLeDiff, Nat.reduceLT, Nat.reduceBEq, Int.reduceEq, Int.reduceBEq, Int.reduceBNe, Int.reduceLT, Int.reduceLE, Int.reduceAdd, Int.reduceSub, Int.reduceNeg, Int.reduceToNat, Int.reducePow, Nat.reducePow, Int.reduceMul, Int.reduceDiv, ↓s_law_pairs_b0, hlen, hlt, hi, hix, hc2, hc3, decide_eq_false h1, decide_eq_false h2]
          rcases l_pairsn l v n H hr hn x (i + 1) hx' with ih | ih
          · exact .inl fun K => (step K).trans (ih K)
          · exact .inr fun K => (step K).trans (ih K)
    · refine .inl fun K => ?_
      rw [r_law_pairs_0]
      simp (disch := first | with_reducible rfl | assumption | omega | rfl | (simp only [go_sem]; first | done | omega)) only [go_sem, ↓reduceIte, reduceCtorEq, Nat.reduceEqDiff, Nat.reduceAdd, Nat.reduceSub, Nat.reduceMul, Nat.reduceDiv, Nat.reduceMod, Nat.reduceLeDiff, Nat.reduceLT, Nat.reduceBEq, Int.reduceEq, Int.reduceBEq, Int.reduceBNe, Int.reduceLT, Int.reduceLE, Int.reduceAdd, Int.reduceSub, Int.reduceNeg, Int.reduceToNat, Int.reducePow, Nat.reducePow, Int.reduceMul, Int.reduceDiv, ↓s_law_pairs_b0, hlen, hlt, hi]
theorem q_pairsn (l : List Pr) (v : Value) (n : Nat) (H : AHeap) (hr : Rd EPr H v l) (hn : n ≤ 1000) :
    ∃ b : Bool, CC F.law_pairs [v, .int .i64 (n : Int)] H = some (.bool b, H) ∧ (b = true → l.length ≤ n) := by
  have hlen := hr.lenS
  rcases l_pairsn l v n H hr hn l 0 rfl with hloop | hloop
  · refine ⟨decide ((l.length : Int) ≤ n), ?_, fun h => by have := of_decide_eq_true h; omega⟩
    refine pure_of (H' := H) ?_ (d_law_pairs _ _ H) rfl (Fr.refl H)
    simp (disch := first | with_reducible rfl | assumption | omega | rfl | (simp only [go_sem]; first | done | omega)) only [go_sem, ↓reduceIte, reduceCtorEq, Nat.reduceEqDiff, Nat.reduceAdd, Nat.reduceSub, Nat.reduceMul, Nat.reduceDiv, Nat.reduceMod, Nat.reduceLeDiff, Nat.reduceLT, Nat.reduceBEq, Int.reduceEq, Int.reduceBEq, Int.reduceBNe, Int.reduceLT, Int.reduceLE, Int.reduceAdd, Int.reduceSub, Int.reduceNeg, Int.reduceToNat, Int.reducePow, Nat.reducePow, Int.reduceMul, Int.reduceDiv, ↓s_law_pairs]
    refine (hloop _).trans ?_
    simp (disch := first | with_reducible rfl | assumption | omega | rfl | (simp only [go_sem]; first | done | omega)) only [go_sem, ↓reduceIte, reduceCtorEq, Nat.reduceEqDiff, Nat.reduceAdd, Nat.reduceSub, Nat.reduceMul, Nat.reduceDiv, Nat.reduceMod, Nat.reduceLeDiff, Nat.reduceLT, Nat.reduceBEq, Int.reduceEq, Int.reduceBEq, Int.reduceBNe, Int.reduceLT, Int.reduceLE, Int.reduceAdd, Int.reduceSub, Int.reduceNeg, Int.reduceToNat, Int.reducePow, Nat.reducePow, Int.reduceMul, Int.reduceDiv, hlen]
  · refine ⟨false, ?_, fun h => by cases h⟩
    refine pure_of (H' := H) ?_ (d_law_pairs _ _ H) rfl (Fr.refl H)
    simp (disch := first | with_reducible rfl | assumption | omega | rfl | (simp only [go_sem]; first | done | omega)) only [go_sem, ↓reduceIte, reduceCtorEq, Nat.reduceEqDiff, Nat.reduceAdd, Nat.reduceSub, Nat.reduceMul, Nat.reduceDiv, Nat.reduceMod, Nat.reduceLeDiff, Nat.reduceLT, Nat.reduceBEq, Int.reduceEq, Int.reduceBEq, Int.reduceBNe, Int.reduceLT, Int.reduceLE, Int.reduceAdd, Int.reduceSub, Int.reduceNeg, Int.reduceToNat, Int.reducePow, Nat.reducePow, Int.reduceMul, Int.reduceDiv, ↓s_law_pairs]
    exact hloop _

/-! ### filled -/
def fillF (acc l : List Pr) : List Pr := l.foldl (fun m a => (putE m a).2) acc
/-- What is so of a map that was made by calls. -/
structure Fine (l : List Pr) : Prop where
  srt : Srt l
  len : l.length ≤ 20000
  ok : AllOk l
theorem Fine.nil : Fine [] := ⟨List.Pairwise.nil, by simp, fun a ha => by cases ha⟩
theorem Fine.put {l : List Pr} (f : Fine l) (a : Pr) : Fine (putE l a).2 := by
  refine ⟨srt_putE f.srt a, len_putE f.len a, ?_⟩
  unfold putE
  split
  · rename_i h; exact allOk_put f.ok h _
  · exact f.ok
theorem Fine.fill : ∀ {l acc : List Pr}, Fine acc → Fine (fillF acc l)
  | [], _, f => f
  | a :: l, acc, f => Fine.fill (l := l) (f.put a)
theorem put_len (l : List Pr) (a : Pr) : (putE l a).2.length ≤ l.length + 1 := by
  unfold putE putP
  split
  · split
    · simp
    · split
      · simp
      · simp; omega
  · simp
theorem fill_len : ∀ (l acc : List Pr), (fillF acc l).length ≤ acc.length + l.length
  | [], acc => by simp [fillF]
  | a :: l, acc => by
    have h1 := fill_len l (putE acc a).2
    have h2 := put_len acc a
    show (fillF (putE acc a).2 l).length ≤ _
    simp only [List.length_cons]
    omega

/-- A map of its own, with what there was before as it was. -/
structure MdlN (Hz H : AHeap) (b : Nat) (l : List Pr) : Prop where
  ok : Ok H
  base : Still Hz H
  m : Mdl H b l
  lo : ∀ c, MB H b c → Hz.n ≤ c
  fine : Fine l
theorem MdlN.step {Hz H H' : AHeap} {b : Nat} {l l' : List Pr} (t : MdlN Hz H b l) (m' : Mdl H' b l') (u : Up H b H') (f : Fine l') : MdlN Hz H' b l' := by
  have n0 : Hz.n ≤ H.n := t.base.n
  refine ⟨t.ok.fr u.fr, t.base.still.then u.fr fun c hc h => by have := t.lo c h; omega, m', fun c h => ?_, f⟩
  rcases u.mb c h with h | h
  · exact t.lo c h
  · omega
theorem MdlN.still {Hz H H' : AHeap} {b : Nat} {l : List Pr} (t : MdlN Hz H b l) (s : Still H H') : MdlN Hz H' b l :=
  ⟨t.ok.fr s, t.base.still.then s fun _ _ h => h, t.m.still s, fun c h => t.lo c (MBT_still t.m s h), t.fine⟩

theorem l_filled (l : List Pr) (v : Value) (Hz : AHeap) (b : Nat) (hr0 : Rd EPr Hz v l) (hl : l.length ≤ 1000000) : ∀ (x : List Pr) (i : Nat) (H : AHeap) (acc : List Pr), l.drop i = x → MdlN Hz H b acc → ∃ H', MdlN Hz H' b (fillF acc x) ∧
    ∀ K : K, l_law_filled_0 v (.pointer (some ⟨b, 0, none⟩)) (.int .i64 (i : Int)) H (blkK [3] 0 K) = K .normal [(3, .pointer (some ⟨b, 0, none⟩))] H'
  | [], i, H, acc, hx, t => by
    have h : l.length ≤ i := List.drop_eq_nil_iff.1 hx
    have hlt : ¬ (i : Int) < (l.length : Int) := by omega
    have hlen := hr0.lenS
    refine ⟨H, t, fun K => ?_⟩
    rw [r_law_filled_0]
    simp (disch := first | with_reducible rfl | assumption | omega | rfl | (simp only [go_sem]; first | done | omega)) only [go_sem, ↓reduceIte, reduceCtorEq, Nat.reduceEqDiff, Nat.reduceAdd, Nat.reduceSub, Nat.reduceMul, Nat.reduceDiv, Nat.reduceMod, Nat.reduceLeDiff, Nat.reduceLT, Nat.reduceBEq, Int.reduceEq, Int.reduceBEq, Int.reduceBNe, Int.reduceLT, Int.reduceLE, Int.reduceAdd, Int.reduceSub, Int.reduceNeg, Int.reduceToNat, Int.reducePow, Nat.reducePow, Int.reduceMul, Int.reduceDiv, ↓s_law_filled_b0, hlen, hlt]
  | a :: x, i, H, acc, hx, t => by
    obtain ⟨h, hxa, hx'⟩ := drop_cons hx
    have hlt : (i : Int) < (l.length : Int) := by omega
    have hlen := hr0.lenS
    obtain ⟨b1, o1, hix, _, hc1, _⟩ := (hr0.still t.base).ix (q := .i64) h
    rw [hxa] at hc1
    have hix : ixS 2 v (.int .i64 i) = some (.pointer (some ⟨b1, o1, none⟩)) := hix
    have hc2 : cellB (H.f b1) o1 = some (.string a.key) := cutB_cell hc1 (i := 0) (by decide)
    have hc3 : cellB (H.f b1) (o1 + 1) = some (.string a.value) := cutB_cell hc1 (i := 1) (by decide)
    obtain ⟨H1, hput, m1, u1⟩ := q_putM b acc a H t.ok t.m t.fine.srt t.fine.len
    obtain ⟨H', t', ih⟩ := l_filled l v Hz b hr0 hl x (i + 1) H1 _ hx' (t.step m1 u1 (t.fine.put a))
    refine ⟨H', t', fun K => ?_⟩
    have ih := ih K
    rw [Int.natCast_add] at ih
    generalize (putE acc a).1 = e at hput
    rw [r_law_filled_0]
    simp (disch := first | with_reducible rfl | assumption | omega | rfl | (simp only [go_sem]; first | done | omega)) only [go_sem, ↓reduceIte, reduceCtorEq, Nat.reduceEqDiff, Nat.reduceAdd, Nat.reduceSub, Nat.reduceMul, Nat.reduceDiv, Nat.reduceMod, Nat.reduceLeDiff, Nat.reduceLT, Nat.reduceBEq, Int.reduceEq, Int.reduceBEq, Int.reduceBNe, Int.reduceLT, Int.reduceLE, Int.reduceAdd, Int.reduceSub, Int.reduceNeg, Int.reduceToNat, Int.reducePow, Nat.reducePow, Int.reduceMul, Int.reduceDiv, ↓s_law_filled_b0, hlen, hlt, hix, hc2, hc3, enterK_eq hput]
    exact ih
theorem q_filled (l : List Pr) (v : Value) (H : AHeap) (ok : Ok H) (hr : Rd EPr H v l) (hl : l.length ≤ 1000000) :
    ∃ H', CC F.law_filled [v] H = some (.pointer (some ⟨H.n, 0, none⟩), H') ∧ MdlN H H' H.n (fillF [] l) := by
  generalize hH1 : H.push (.cells [.slice none 0 0] T.model_Model true) = H1
  have s1 : Still H H1 := by rw [← hH1]; exact (Fr.refl H).push _
  have n1 : H1.n = H.n + 1 := by rw [← hH1]; rfl
  have f1 : H1.f H.n = .cells [.slice none 0 0] T.model_Model true := by rw [← hH1]; exact push_f_eq rfl
  have t1 : MdlN H H1 H.n [] := ⟨ok.fr s1, s1, ⟨_, f1, by omega, .inl ⟨rfl, rfl⟩, by simp [blockOf]⟩, (fun c h => by
    rcases h with h | ⟨u, hu, hb⟩
    · omega
    · rw [f1] at hu; cases hu; cases hb), Fine.nil⟩
  obtain ⟨H2, t2, hloop⟩ := l_filled l v H H.n hr hl l 0 H1 [] rfl t1
  refine ⟨H2, (d_law_filled _ H (r := (.pointer (some ⟨H.n, 0, none⟩), H2)) ?_).trans (congrArg some (tidy_mem rfl)), t2⟩
  simp (disch := first | with_reducible rfl | assumption | omega | rfl | (simp only [go_sem]; first | done | omega)) only [go_sem, ↓reduceIte, reduceCtorEq, Nat.reduceEqDiff, Nat.reduceAdd, Nat.reduceSub, Nat.reduceMul, Nat.reduceDiv, Nat.reduceMod, Nat.reduceLeDiff, Nat.reduceLT, Nat.reduceBEq, Int.reduceEq, Int.reduceBEq, Int.reduceBNe, Int.reduceLT, Int.reduceLE, Int.reduceAdd, Int.reduceSub, Int.reduceNeg, Int.reduceToNat, Int.reducePow, Nat.reducePow, Int.reduceMul, Int.reduceDiv, ↓s_law_filled, hH1]
  refine (hloop _).trans ?_
  simp (disch := first | with_reducible rfl | assumption | omega | rfl | (simp only [go_sem]; first | done | omega)) only [go_sem, ↓reduceIte, reduceCtorEq, Nat.reduceEqDiff, Nat.reduceAdd, Nat.reduceSub, Nat.reduceMul, Nat.reduceDiv, Nat.reduceMod, Nat.reduceLeDiff, Nat.reduceLT, Nat.reduceBEq, Int.reduceEq, Int.reduceBEq, Int.reduceBNe, Int.reduceLT, Int.reduceLE, Int.reduceAdd, Int.reduceSub, Int.reduceNeg, Int.reduceToNat, Int.reducePow, Nat.reducePow, Int.reduceMul, Int.reduceDiv]

end Go.Proofs.Ytlbieadnfgfhlaa

/-
  Chapter 49: two lists of changes side by side (printed by gen_both.py).
  Conditions: none. By an AI agent.
-/
set_option maxRecDepth 10000
set_option linter.unusedSimpArgs false
set_option linter.unusedVariables false
namespace Go.Proofs.Ytlbieadnfgfhlaa
open Go Eng

/-- A row that reads as a list, and of which parts can be taken. -/
def Sb (H : AHeap) (v : Value) (l : List Cg) : Prop :=
  Rd ECg H v l ∧ (l = [] ∨ ∃ b o code, v = .slice (some ⟨b, o, none⟩) l.length code ∧ l.length ≤ code / 2 ∧ (code % 2 = 0 ∨ rowOf T.api_Change (H.f b) = true))
theorem Sb.of {H : AHeap} {v : Value} {l : List Cg} (r : Own ECg H T.api_Change v l) : Sb H v l := by
  refine ⟨r.rd, ?_⟩
  rcases r with ⟨h, _⟩ | ⟨h, _⟩ | ⟨b, o, c, xs, rfl, hlc, hb, hf, ho, hx⟩
  · exact .inl h
  · exact .inl h
  · exact .inr ⟨b, o, 2 * c + 1, rfl, by omega, .inr (by rw [hf]; simp [rowOf])⟩
theorem Sb.keep {S : Nat → Prop} {H H' : AHeap} {v : Value} {l : List Cg} (r : Sb H v l) (h : Fr S H H') (hs : Off S v) : Sb H' v l := by
  obtain ⟨r1, r2⟩ := r
  refine ⟨r1.keep h hs, ?_⟩
  rcases r2 with r2 | ⟨b, o, code, rfl, hl, hc⟩
  · exact .inl r2
  · by_cases h0 : l = []
    · exact .inl h0
    · have hb : b < H.n := by
        rcases r1 with ⟨h1, _⟩ | ⟨h1, _⟩ | ⟨b', o', c', hv, _, hb, _⟩
        · exact absurd h1 h0
        · exact absurd h1 h0
        · cases hv; exact hb
      exact .inr ⟨b, o, code, rfl, hl, by rw [h.f hb (hs b rfl)]; exact hc⟩
theorem Sb.still {H H' : AHeap} {v : Value} {l : List Cg} (r : Sb H v l) (h : Still H H') : Sb H' v l := r.keep h fun _ _ h => h
theorem Sb.drop {H : AHeap} {v : Value} {x : Cg} {l : List Cg} (r : Sb H v (x :: l)) : ∃ v', slS T.api_Change 5 v (some (.int .i64 1)) none none H = some v' ∧ Sb H v' l ∧ blockOf v' = blockOf v := by
  obtain ⟨r1, r2⟩ := r
  rcases r2 with r2 | ⟨b, o, code, rfl, hl, hc⟩
  · cases r2
  · rcases r1 with ⟨h1, _⟩ | ⟨h1, _⟩ | ⟨b', o', c', hv, _, hb, hcut⟩
    · cases h1
    · cases h1
    · cases hv
      have hw : ECg.w = 5 := rfl
      simp only [List.length_cons] at hl hcut ⊢
      have hlow : lowOf (l.length + 1) (some (.int .i64 1)) = some 1 := by simp [lowOf, Eng.bnd]; omega
      have hhi : highOf (code / 2) (l.length + 1) none = some (l.length + 1) := rfl
      have hcut' : l ≠ [] → cutB (H.f b) (o + 1 * 5) (l.length * ECg.w) = some (ECg.cells l) := fun _ => by
        have := cutB_sub hcut (i := 1 * 5) (m := l.length * 5) (by rw [hw]; omega)
        rw [hw, this, ← hw, ECg.cells_drop, List.drop_succ_cons, List.drop_zero, List.take_of_length_le (by simp)]
      by_cases he : code % 2 = 0
      · refine ⟨.slice (some ⟨b, if code / 2 = 1 then o else o + 1 * 5, none⟩) l.length (2 * (code / 2 - 1)), ?_, ⟨?_, ?_⟩, rfl⟩
        · unfold slS
          simp only [hhi, hlow, Option.bind_some]
          rw [if_pos hl, if_pos he, Nat.add_sub_cancel]
        · by_cases h0 : l = []
          · subst h0; exact .inr (.inl ⟨rfl, _, _, rfl, rfl⟩)
          · have hpos : 0 < l.length := List.length_pos_iff.2 h0
            rw [if_neg (by omega)]
            exact .inr (.inr ⟨b, _, _, rfl, h0, hb, hcut' h0⟩)
        · exact .inr ⟨b, _, _, rfl, by omega, .inl (by omega)⟩
      · have hrow : rowOf T.api_Change (H.f b) = true := hc.resolve_left he
        refine ⟨.slice (some ⟨b, o + 1 * 5, none⟩) l.length (2 * (code / 2 - 1) + 1), ?_, ⟨?_, ?_⟩, rfl⟩
        · unfold slS
          simp only [hhi, hlow, Option.bind_some]
          rw [if_pos hl, if_neg he, if_pos hrow, Nat.add_sub_cancel]
        · by_cases h0 : l = []
          · subst h0; exact .inr (.inl ⟨rfl, _, _, rfl, rfl⟩)
          · exact .inr (.inr ⟨b, _, _, rfl, h0, hb, hcut' h0⟩)
        · exact .inr ⟨b, _, _, rfl, by omega, .inr hrow⟩
theorem Sb.blk {H : AHeap} {v : Value} {x : Cg} {l : List Cg} (r : Sb H v (x :: l)) : ∃ b, blockOf v = some b ∧ b < H.n := by
  rcases r.1 with ⟨h1, _⟩ | ⟨h1, _⟩ | ⟨b', o', c', rfl, _, hb, _⟩
  · cases h1
  · cases h1
  · exact ⟨b', rfl, hb⟩
theorem Sb.shape {H : AHeap} {v : Value} {l : List Cg} (r : Sb H v l) : ∃ a k, v = .slice a l.length k := r.1.shape

/-! ### Both lists, in order -/
abbrev Both := Cg × Cg × Bool × Bool
def mrg : List Cg → List Cg → List Both
  | [], [] => []
  | x :: a, [] => (x, cg0, true, false) :: mrg a []
  | [], y :: b => (cg0, y, false, true) :: mrg [] b
  | x :: a, y :: b => if cmpS x.key y.key < 0 then (x, cg0, true, false) :: mrg a (y :: b) else if cmpS x.key y.key = 0 then (x, y, true, true) :: mrg a b else (cg0, y, false, true) :: mrg (x :: a) b
termination_by a b => a.length + b.length

/-- What a function that is called for each key keeps. -/
structure Vis (M : Nat) (Hz : AHeap) (S : Nat → Prop) (f : Value) (Inv : List Both → AHeap → Prop) : Prop where
  fr : ∀ d H, Inv d H → Fr S Hz H
  still : ∀ d H H', Inv d H → Still H H' → Inv d H'
  call : ∀ d e H, d.length < M → Inv d H → ∃ r H', Inv (d ++ [e]) H' ∧ ∀ k : Value → AHeap → Res, callK Try.prog CC f [cgV e.1, cgV e.2.1, .bool e.2.2.1, .bool e.2.2.2] H k = k r H'

theorem s_both_A (M : Nat) (Hz H : AHeap) (S : Nat → Prop) (f va vb : Value) (Inv : List Both → AHeap → Prop) (V : Vis M Hz S f Inv) (d : List Both) (hd : d.length < M) (x : Cg) (a : List Cg) (ra : Sb H va (x :: a)) (rb : Sb H vb ([])) (hin : Inv d H) :
    ∃ va' vb' H0 H', Still H H0 ∧ Inv (d ++ [(x, cg0, true, false)]) H' ∧ Sb H0 va' a ∧ Sb H0 vb' ([]) ∧ (∀ c, blockOf va' = some c → blockOf va = some c) ∧ (∀ c, blockOf vb' = some c → blockOf vb = some c) ∧
      ∀ K : K, l_delta_both_0 va vb f H (blkK [] 0 K) = l_delta_both_0 va' vb' f H' (blkK [] 0 K) := by
  have qa : (0 : Int) < (a.length : Int) + 1 := by omega
  have qa0 : ¬ (a.length : Int) + 1 = 0 := by omega
  have hla := ra.1.lenS
  have hlb := rb.1.lenS
  generalize hH1 : H.push (.cells [.string (mk []), .bool false, .bool false, .string (mk []), .string (mk [])] T.api_Change true) = H1
  have s1 : Still H H1 := by rw [← hH1]; exact (Fr.refl H).push _
  have n1 : H1.n = H.n + 1 := by rw [← hH1]; rfl
  have f1 : H1.f H.n = cgB cg0 := by rw [← hH1]; exact push_f_eq rfl
  generalize hH2 : H1.push (.cells [.string (mk []), .bool false, .bool false, .string (mk []), .string (mk [])] T.api_Change true) = H2
  have s2 : Still H1 H2 := by rw [← hH2]; exact (Fr.refl H1).push _
  have n2 : H2.n = H1.n + 1 := by rw [← hH2]; rfl
  have f2 : H2.f H1.n = cgB cg0 := by rw [← hH2]; exact push_f_eq rfl
  have f21 : H2.f H.n = cgB cg0 := by rw [s2.f (by omega) (fun h => h), f1]
  have s02 : Still H H2 := s1.still.then s2 fun _ _ h => h
  have f2 : H2.f H1.n = .cells [.string (mk []), .bool false, .bool false, .string (mk []), .string (mk [])] T.api_Change true := f2
  have f21 : H2.f H.n = .cells [.string (mk []), .bool false, .bool false, .string (mk []), .string (mk [])] T.api_Change true := f21
  obtain ⟨b1, o1, hix1, hb1, hc1, hbl1⟩ := ra.1.ix (q := .i64) (i := 0) (by simp)
  have hix1 : ixS 5 va (.int .i64 0) = some (.pointer (some ⟨b1, o1, none⟩)) := hix1
  have hk1 : cellB (H.f b1) o1 = some (.string x.key) := cutB_cell hc1 (i := 0) (by decide)
  have hc1 : cutB (H.f b1) o1 5 = some [.string x.key, .bool x.was, .bool x.is, .string x.before, .string x.after] := hc1
  have hc1 : cutB (H2.f b1) o1 5 = some [.string x.key, .bool x.was, .bool x.is, .string x.before, .string x.after] := by rw [s02.f hb1 (fun h => h)]; exact hc1
  obtain ⟨va', hsl1, ra', hba⟩ := (ra.still s02).drop
  have hbl1' := hbl1
  unfold blockOf at hbl1'
  generalize hH3 : H2.set H.n (.cells [.string x.key, .bool x.was, .bool x.is, .string x.before, .string x.after] T.api_Change true) = H3
  have s3 : Still H H3 := by rw [← hH3]; exact Fr.set s02 _ _ fun h => by omega
  have f3 : H3.f H.n = .cells [.string x.key, .bool x.was, .bool x.is, .string x.before, .string x.after] T.api_Change true := by rw [← hH3]; exact set_f_eq
  have f31 : H3.f H1.n = .cells [.string (mk []), .bool false, .bool false, .string (mk []), .string (mk [])] T.api_Change true := by rw [← hH3, set_f_ne (by omega), f2]
  have n3 : H3.n = H2.n := by rw [← hH3]; rfl
  have u3 : H3.ver b1 = H2.ver b1 := by rw [s3.ver hb1 (fun h => h), s02.ver hb1 (fun h => h)]
  have s4 : Still H H3 := s3
  have rA : Sb H3 va' a := by
    rw [← hH3]
    exact ra'.keep (S := fun c => c = H.n) (Fr.set (Fr.refl _) _ _ fun _ => rfl) fun c hc h => by rw [hba, hbl1] at hc; cases hc; omega
  have rB : Sb H3 vb ([]) := rb.still s4
  obtain ⟨r, H', hin', hcall⟩ := V.call d (x, cg0, true, false) H3 hd (V.still _ _ _ hin s4)
  refine ⟨va', vb, H3, H', s4, hin', rA, rB, fun c hc => by rw [← hba]; exact hc, fun c hc => hc, fun K => ?_⟩
  have hcall : ∀ k : Value → AHeap → Res, callK Try.prog CC f [.agg #[.string x.key, .bool x.was, .bool x.is, .string x.before, .string x.after], .agg #[.string (mk []), .bool false, .bool false, .string (mk []), .string (mk [])], .bool true, .bool false] H3 k = k r H' := hcall
  rw [r_delta_both_0]
  simp (disch := first | with_reducible rfl | assumption | omega | rfl | (simp only [go_sem]; first | done | omega)) only [go_sem, ↓reduceIte, reduceCtorEq, Nat.reduceEqDiff, Nat.reduceAdd, Nat.reduceSub, Nat.reduceMul, Nat.reduceDiv, Nat.reduceMod, Nat.reduceLeDiff, Nat.reduceLT, Nat.reduceBEq, Int.reduceEq, Int.reduceBEq, Int.reduceBNe, Int.reduceLT, Int.reduceLE, Int.reduceAdd, Int.reduceSub, Int.reduceNeg, Int.reduceToNat, Int.reducePow, Nat.reducePow, Int.reduceMul, Int.reduceDiv, ↓s_delta_both_b0, hla, hlb, List.length_cons, List.length_nil, Int.natCast_zero, qa, hH1, hH2, hix1, hk1, hc1, hsl1, f21, hH3, f3, f31, hbl1', hcall]

theorem s_both_B (M : Nat) (Hz H : AHeap) (S : Nat → Prop) (f va vb : Value) (Inv : List Both → AHeap → Prop) (V : Vis M Hz S f Inv) (d : List Both) (hd : d.length < M) (y : Cg) (b : List Cg) (ra : Sb H va ([])) (rb : Sb H vb (y :: b)) (hin : Inv d H) :
    ∃ va' vb' H0 H', Still H H0 ∧ Inv (d ++ [(cg0, y, false, true)]) H' ∧ Sb H0 va' ([]) ∧ Sb H0 vb' b ∧ (∀ c, blockOf va' = some c → blockOf va = some c) ∧ (∀ c, blockOf vb' = some c → blockOf vb = some c) ∧
      ∀ K : K, l_delta_both_0 va vb f H (blkK [] 0 K) = l_delta_both_0 va' vb' f H' (blkK [] 0 K) := by
  have qb : (0 : Int) < (b.length : Int) + 1 := by omega
  have qb0 : ¬ (b.length : Int) + 1 = 0 := by omega
  have hla := ra.1.lenS
  have hlb := rb.1.lenS
  generalize hH1 : H.push (.cells [.string (mk []), .bool false, .bool false, .string (mk []), .string (mk [])] T.api_Change true) = H1
  have s1 : Still H H1 := by rw [← hH1]; exact (Fr.refl H).push _
  have n1 : H1.n = H.n + 1 := by rw [← hH1]; rfl
  have f1 : H1.f H.n = cgB cg0 := by rw [← hH1]; exact push_f_eq rfl
  generalize hH2 : H1.push (.cells [.string (mk []), .bool false, .bool false, .string (mk []), .string (mk [])] T.api_Change true) = H2
  have s2 : Still H1 H2 := by rw [← hH2]; exact (Fr.refl H1).push _
  have n2 : H2.n = H1.n + 1 := by rw [← hH2]; rfl
  have f2 : H2.f H1.n = cgB cg0 := by rw [← hH2]; exact push_f_eq rfl
  have f21 : H2.f H.n = cgB cg0 := by rw [s2.f (by omega) (fun h => h), f1]
  have s02 : Still H H2 := s1.still.then s2 fun _ _ h => h
  have f2 : H2.f H1.n = .cells [.string (mk []), .bool false, .bool false, .string (mk []), .string (mk [])] T.api_Change true := f2
  have f21 : H2.f H.n = .cells [.string (mk []), .bool false, .bool false, .string (mk []), .string (mk [])] T.api_Change true := f21
  obtain ⟨b2, o2, hix2, hb2, hc2, hbl2⟩ := rb.1.ix (q := .i64) (i := 0) (by simp)
  have hix2 : ixS 5 vb (.int .i64 0) = some (.pointer (some ⟨b2, o2, none⟩)) := hix2
  have hk2 : cellB (H.f b2) o2 = some (.string y.key) := cutB_cell hc2 (i := 0) (by decide)
  have hc2 : cutB (H.f b2) o2 5 = some [.string y.key, .bool y.was, .bool y.is, .string y.before, .string y.after] := hc2
  have s3 : Still H H2 := s02
  have hc2 : cutB (H2.f b2) o2 5 = some [.string y.key, .bool y.was, .bool y.is, .string y.before, .string y.after] := by rw [s3.f hb2 (fun h => h)]; exact hc2
  obtain ⟨vb', hsl2, rb', hbb⟩ := (rb.still s3).drop
  have hbl2' := hbl2
  unfold blockOf at hbl2'
  generalize hH4 : H2.set H1.n (.cells [.string y.key, .bool y.was, .bool y.is, .string y.before, .string y.after] T.api_Change true) = H4
  have s4 : Still H H4 := by rw [← hH4]; exact Fr.set s3 _ _ fun h => by omega
  have f4 : H4.f H1.n = .cells [.string y.key, .bool y.was, .bool y.is, .string y.before, .string y.after] T.api_Change true := by rw [← hH4]; exact set_f_eq
  have f41 : H4.f H.n = .cells [.string (mk []), .bool false, .bool false, .string (mk []), .string (mk [])] T.api_Change true := by rw [← hH4, set_f_ne (by omega), f21]
  have n4 : H4.n = H2.n := by rw [← hH4]; rfl
  have u4 : H4.ver b2 = H2.ver b2 := by rw [s4.ver hb2 (fun h => h), s3.ver hb2 (fun h => h)]
  have rA : Sb H4 va ([]) := ra.still s4
  have rB : Sb H4 vb' b := by
    rw [← hH4]
    exact rb'.keep (S := fun c => c = H1.n) (Fr.set (Fr.refl _) _ _ fun _ => rfl) fun c hc h => by rw [hbb, hbl2] at hc; cases hc; omega
  obtain ⟨r, H', hin', hcall⟩ := V.call d (cg0, y, false, true) H4 hd (V.still _ _ _ hin s4)
  refine ⟨va, vb', H4, H', s4, hin', rA, rB, fun c hc => hc, fun c hc => by rw [← hbb]; exact hc, fun K => ?_⟩
  have hcall : ∀ k : Value → AHeap → Res, callK Try.prog CC f [.agg #[.string (mk []), .bool false, .bool false, .string (mk []), .string (mk [])], .agg #[.string y.key, .bool y.was, .bool y.is, .string y.before, .string y.after], .bool false, .bool true] H4 k = k r H' := hcall
  rw [r_delta_both_0]
  simp (disch := first | with_reducible rfl | assumption | omega | rfl | (simp only [go_sem]; first | done | omega)) only [go_sem, ↓reduceIte, reduceCtorEq, Nat.reduceEqDiff, Nat.reduceAdd, Nat.reduceSub, Nat.reduceMul, Nat.reduceDiv, Nat.reduceMod, Nat.reduceLeDiff, Nat.reduceLT, Nat.reduceBEq, Int.reduceEq, Int.reduceBEq, Int.reduceBNe, Int.reduceLT, Int.reduceLE, Int.reduceAdd, Int.reduceSub, Int.reduceNeg, Int.reduceToNat, Int.reducePow, Nat.reducePow, Int.reduceMul, Int.reduceDiv, ↓s_delta_both_b0, hla, hlb, List.length_cons, List.length_nil, Int.natCast_zero, qb, hH1, hH2, hix2, hk2, f21, f2, hc2, hsl2, hH4, f4, f41, hbl2', hcall]

theorem s_both_C (M : Nat) (Hz H : AHeap) (S : Nat → Prop) (f va vb : Value) (Inv : List Both → AHeap → Prop) (V : Vis M Hz S f Inv) (d : List Both) (hd : d.length < M) (x : Cg) (a : List Cg) (y : Cg) (b : List Cg) (ra : Sb H va (x :: a)) (rb : Sb H vb (y :: b)) (hin : Inv d H) (hlt : cmpS x.key y.key < 0) :
    ∃ va' vb' H0 H', Still H H0 ∧ Inv (d ++ [(x, cg0, true, false)]) H' ∧ Sb H0 va' a ∧ Sb H0 vb' (y :: b) ∧ (∀ c, blockOf va' = some c → blockOf va = some c) ∧ (∀ c, blockOf vb' = some c → blockOf vb = some c) ∧
      ∀ K : K, l_delta_both_0 va vb f H (blkK [] 0 K) = l_delta_both_0 va' vb' f H' (blkK [] 0 K) := by
  have qa : (0 : Int) < (a.length : Int) + 1 := by omega
  have qa0 : ¬ (a.length : Int) + 1 = 0 := by omega
  have qb : (0 : Int) < (b.length : Int) + 1 := by omega
  have qb0 : ¬ (b.length : Int) + 1 = 0 := by omega
  have hgt : ¬ cmpS y.key x.key ≤ 0 := by have := cmpS_swap x.key y.key; omega
  have hla := ra.1.lenS
  have hlb := rb.1.lenS
  generalize hH1 : H.push (.cells [.string (mk []), .bool false, .bool false, .string (mk []), .string (mk [])] T.api_Change true) = H1
  have s1 : Still H H1 := by rw [← hH1]; exact (Fr.refl H).push _
  have n1 : H1.n = H.n + 1 := by rw [← hH1]; rfl
  have f1 : H1.f H.n = cgB cg0 := by rw [← hH1]; exact push_f_eq rfl
  generalize hH2 : H1.push (.cells [.string (mk []), .bool false, .bool false, .string (mk []), .string (mk [])] T.api_Change true) = H2
  have s2 : Still H1 H2 := by rw [← hH2]; exact (Fr.refl H1).push _
  have n2 : H2.n = H1.n + 1 := by rw [← hH2]; rfl
  have f2 : H2.f H1.n = cgB cg0 := by rw [← hH2]; exact push_f_eq rfl
  have f21 : H2.f H.n = cgB cg0 := by rw [s2.f (by omega) (fun h => h), f1]
  have s02 : Still H H2 := s1.still.then s2 fun _ _ h => h
  have f2 : H2.f H1.n = .cells [.string (mk []), .bool false, .bool false, .string (mk []), .string (mk [])] T.api_Change true := f2
  have f21 : H2.f H.n = .cells [.string (mk []), .bool false, .bool false, .string (mk []), .string (mk [])] T.api_Change true := f21
  obtain ⟨b1, o1, hix1, hb1, hc1, hbl1⟩ := ra.1.ix (q := .i64) (i := 0) (by simp)
  have hix1 : ixS 5 va (.int .i64 0) = some (.pointer (some ⟨b1, o1, none⟩)) := hix1
  have hk1 : cellB (H.f b1) o1 = some (.string x.key) := cutB_cell hc1 (i := 0) (by decide)
  have hc1 : cutB (H.f b1) o1 5 = some [.string x.key, .bool x.was, .bool x.is, .string x.before, .string x.after] := hc1
  obtain ⟨b2, o2, hix2, hb2, hc2, hbl2⟩ := rb.1.ix (q := .i64) (i := 0) (by simp)
  have hix2 : ixS 5 vb (.int .i64 0) = some (.pointer (some ⟨b2, o2, none⟩)) := hix2
  have hk2 : cellB (H.f b2) o2 = some (.string y.key) := cutB_cell hc2 (i := 0) (by decide)
  have hc2 : cutB (H.f b2) o2 5 = some [.string y.key, .bool y.was, .bool y.is, .string y.before, .string y.after] := hc2
  have hc1 : cutB (H2.f b1) o1 5 = some [.string x.key, .bool x.was, .bool x.is, .string x.before, .string x.after] := by rw [s02.f hb1 (fun h => h)]; exact hc1
  obtain ⟨va', hsl1, ra', hba⟩ := (ra.still s02).drop
  have hbl1' := hbl1
  unfold blockOf at hbl1'
  generalize hH3 : H2.set H.n (.cells [.string x.key, .bool x.was, .bool x.is, .string x.before, .string x.after] T.api_Change true) = H3
  have s3 : Still H H3 := by rw [← hH3]; exact Fr.set s02 _ _ fun h => by omega
  have f3 : H3.f H.n = .cells [.string x.key, .bool x.was, .bool x.is, .string x.before, .string x.after] T.api_Change true := by rw [← hH3]; exact set_f_eq
  have f31 : H3.f H1.n = .cells [.string (mk []), .bool false, .bool false, .string (mk []), .string (mk [])] T.api_Change true := by rw [← hH3, set_f_ne (by omega), f2]
  have n3 : H3.n = H2.n := by rw [← hH3]; rfl
  have u3 : H3.ver b1 = H2.ver b1 := by rw [s3.ver hb1 (fun h => h), s02.ver hb1 (fun h => h)]
  have s4 : Still H H3 := s3
  have rA : Sb H3 va' a := by
    rw [← hH3]
    exact ra'.keep (S := fun c => c = H.n) (Fr.set (Fr.refl _) _ _ fun _ => rfl) fun c hc h => by rw [hba, hbl1] at hc; cases hc; omega
  have rB : Sb H3 vb (y :: b) := rb.still s4
  obtain ⟨r, H', hin', hcall⟩ := V.call d (x, cg0, true, false) H3 hd (V.still _ _ _ hin s4)
  refine ⟨va', vb, H3, H', s4, hin', rA, rB, fun c hc => by rw [← hba]; exact hc, fun c hc => hc, fun K => ?_⟩
  have hcall : ∀ k : Value → AHeap → Res, callK Try.prog CC f [.agg #[.string x.key, .bool x.was, .bool x.is, .string x.before, .string x.after], .agg #[.string (mk []), .bool false, .bool false, .string (mk []), .string (mk [])], .bool true, .bool false] H3 k = k r H' := hcall
  rw [r_delta_both_0]
  simp (disch := first | with_reducible rfl | assumption | omega | rfl | (simp only [go_sem]; first | done | omega)) only [go_sem, ↓reduceIte, reduceCtorEq, Nat.reduceEqDiff, Nat.reduceAdd, Nat.reduceSub, Nat.reduceMul, Nat.reduceDiv, Nat.reduceMod, Nat.reduceLeDiff, Nat.reduceLT, Nat.reduceBEq, Int.reduceEq, Int.reduceBEq, Int.reduceBNe, Int.reduceLT, Int.reduceLE, Int.reduceAdd, Int.reduceSub, Int.reduceNeg, Int.reduceToNat, Int.reducePow, Nat.reducePow, Int.reduceMul, Int.reduceDiv, ↓s_delta_both_b0, hla, hlb, List.length_cons, qa, qb, decide_eq_false qa0, decide_eq_false qb0, leq_cmpS, decide_eq_true (Int.le_of_lt hlt), decide_eq_false hgt, hH1, hH2, hix1, hk1, hix2, hk2, hc1, hsl1, f21, hH3, f3, f31, hbl1', hcall]

theorem s_both_D (M : Nat) (Hz H : AHeap) (S : Nat → Prop) (f va vb : Value) (Inv : List Both → AHeap → Prop) (V : Vis M Hz S f Inv) (d : List Both) (hd : d.length < M) (x : Cg) (a : List Cg) (y : Cg) (b : List Cg) (ra : Sb H va (x :: a)) (rb : Sb H vb (y :: b)) (hin : Inv d H) (heq : cmpS x.key y.key = 0) :
    ∃ va' vb' H0 H', Still H H0 ∧ Inv (d ++ [(x, y, true, true)]) H' ∧ Sb H0 va' a ∧ Sb H0 vb' b ∧ (∀ c, blockOf va' = some c → blockOf va = some c) ∧ (∀ c, blockOf vb' = some c → blockOf vb = some c) ∧
      ∀ K : K, l_delta_both_0 va vb f H (blkK [] 0 K) = l_delta_both_0 va' vb' f H' (blkK [] 0 K) := by
  have qa : (0 : Int) < (a.length : Int) + 1 := by omega
  have qa0 : ¬ (a.length : Int) + 1 = 0 := by omega
  have qb : (0 : Int) < (b.length : Int) + 1 := by omega
  have qb0 : ¬ (b.length : Int) + 1 = 0 := by omega
  have hle1 : cmpS x.key y.key ≤ 0 := by omega
  have hle2 : cmpS y.key x.key ≤ 0 := by have := cmpS_swap x.key y.key; omega
  have hla := ra.1.lenS
  have hlb := rb.1.lenS
  generalize hH1 : H.push (.cells [.string (mk []), .bool false, .bool false, .string (mk []), .string (mk [])] T.api_Change true) = H1
  have s1 : Still H H1 := by rw [← hH1]; exact (Fr.refl H).push _
  have n1 : H1.n = H.n + 1 := by rw [← hH1]; rfl
  have f1 : H1.f H.n = cgB cg0 := by rw [← hH1]; exact push_f_eq rfl
  generalize hH2 : H1.push (.cells [.string (mk []), .bool false, .bool false, .string (mk []), .string (mk [])] T.api_Change true) = H2
  have s2 : Still H1 H2 := by rw [← hH2]; exact (Fr.refl H1).push _
  have n2 : H2.n = H1.n + 1 := by rw [← hH2]; rfl
  have f2 : H2.f H1.n = cgB cg0 := by rw [← hH2]; exact push_f_eq rfl
  have f21 : H2.f H.n = cgB cg0 := by rw [s2.f (by omega) (fun h => h), f1]
  have s02 : Still H H2 := s1.still.then s2 fun _ _ h => h
  have f2 : H2.f H1.n = .cells [.string (mk []), .bool false, .bool false, .string (mk []), .string (mk [])] T.api_Change true := f2
  have f21 : H2.f H.n = .cells [.string (mk []), .bool false, .bool false, .string (mk []), .string (mk [])] T.api_Change true := f21
  obtain ⟨b1, o1, hix1, hb1, hc1, hbl1⟩ := ra.1.ix (q := .i64) (i := 0) (by simp)
  have hix1 : ixS 5 va (.int .i64 0) = some (.pointer (some ⟨b1, o1, none⟩)) := hix1
  have hk1 : cellB (H.f b1) o1 = some (.string x.key) := cutB_cell hc1 (i := 0) (by decide)
  have hc1 : cutB (H.f b1) o1 5 = some [.string x.key, .bool x.was, .bool x.is, .string x.before, .string x.after] := hc1
  obtain ⟨b2, o2, hix2, hb2, hc2, hbl2⟩ := rb.1.ix (q := .i64) (i := 0) (by simp)
  have hix2 : ixS 5 vb (.int .i64 0) = some (.pointer (some ⟨b2, o2, none⟩)) := hix2
  have hk2 : cellB (H.f b2) o2 = some (.string y.key) := cutB_cell hc2 (i := 0) (by decide)
  have hc2 : cutB (H.f b2) o2 5 = some [.string y.key, .bool y.was, .bool y.is, .string y.before, .string y.after] := hc2
  have hc1 : cutB (H2.f b1) o1 5 = some [.string x.key, .bool x.was, .bool x.is, .string x.before, .string x.after] := by rw [s02.f hb1 (fun h => h)]; exact hc1
  obtain ⟨va', hsl1, ra', hba⟩ := (ra.still s02).drop
  have hbl1' := hbl1
  unfold blockOf at hbl1'
  generalize hH3 : H2.set H.n (.cells [.string x.key, .bool x.was, .bool x.is, .string x.before, .string x.after] T.api_Change true) = H3
  have s3 : Still H H3 := by rw [← hH3]; exact Fr.set s02 _ _ fun h => by omega
  have f3 : H3.f H.n = .cells [.string x.key, .bool x.was, .bool x.is, .string x.before, .string x.after] T.api_Change true := by rw [← hH3]; exact set_f_eq
  have f31 : H3.f H1.n = .cells [.string (mk []), .bool false, .bool false, .string (mk []), .string (mk [])] T.api_Change true := by rw [← hH3, set_f_ne (by omega), f2]
  have n3 : H3.n = H2.n := by rw [← hH3]; rfl
  have u3 : H3.ver b1 = H2.ver b1 := by rw [s3.ver hb1 (fun h => h), s02.ver hb1 (fun h => h)]
  have hc2 : cutB (H3.f b2) o2 5 = some [.string y.key, .bool y.was, .bool y.is, .string y.before, .string y.after] := by rw [s3.f hb2 (fun h => h)]; exact hc2
  obtain ⟨vb', hsl2, rb', hbb⟩ := (rb.still s3).drop
  have hbl2' := hbl2
  unfold blockOf at hbl2'
  generalize hH4 : H3.set H1.n (.cells [.string y.key, .bool y.was, .bool y.is, .string y.before, .string y.after] T.api_Change true) = H4
  have s4 : Still H H4 := by rw [← hH4]; exact Fr.set s3 _ _ fun h => by omega
  have f4 : H4.f H1.n = .cells [.string y.key, .bool y.was, .bool y.is, .string y.before, .string y.after] T.api_Change true := by rw [← hH4]; exact set_f_eq
  have f41 : H4.f H.n = .cells [.string x.key, .bool x.was, .bool x.is, .string x.before, .string x.after] T.api_Change true := by rw [← hH4, set_f_ne (by omega), f3]
  have n4 : H4.n = H3.n := by rw [← hH4]; rfl
  have u4 : H4.ver b2 = H3.ver b2 := by rw [s4.ver hb2 (fun h => h), s3.ver hb2 (fun h => h)]
  have rA : Sb H4 va' a := by
    rw [← hH4, ← hH3]
    exact (ra'.keep (S := fun c => c = H.n) (Fr.set (Fr.refl _) _ _ fun _ => rfl) fun c hc h => by rw [hba, hbl1] at hc; cases hc; omega).keep (S := fun c => c = H1.n) (Fr.set (Fr.refl _) _ _ fun _ => rfl) fun c hc h => by rw [hba, hbl1] at hc; cases hc; omega
  have rB : Sb H4 vb' b := by
    rw [← hH4]
    exact rb'.keep (S := fun c => c = H1.n) (Fr.set (Fr.refl _) _ _ fun _ => rfl) fun c hc h => by rw [hbb, hbl2] at hc; cases hc; omega
  obtain ⟨r, H', hin', hcall⟩ := V.call d (x, y, true, true) H4 hd (V.still _ _ _ hin s4)
  refine ⟨va', vb', H4, H', s4, hin', rA, rB, fun c hc => by rw [← hba]; exact hc, fun c hc => by rw [← hbb]; exact hc, fun K => ?_⟩
  have hcall : ∀ k : Value → AHeap → Res, callK Try.prog CC f [.agg #[.string x.key, .bool x.was, .bool x.is, .string x.before, .string x.after], .agg #[.string y.key, .bool y.was, .bool y.is, .string y.before, .string y.after], .bool true, .bool true] H4 k = k r H' := hcall
  rw [r_delta_both_0]
  simp (disch := first | with_reducible rfl | assumption | omega | rfl | (simp only [go_sem]; first | done | omega)) only [go_sem, ↓reduceIte, reduceCtorEq, Nat.reduceEqDiff, Nat.reduceAdd, Nat.reduceSub, Nat.reduceMul, Nat.reduceDiv, Nat.reduceMod, Nat.reduceLeDiff, Nat.reduceLT, Nat.reduceBEq, Int.reduceEq, Int.reduceBEq, Int.reduceBNe, Int.reduceLT, Int.reduceLE, Int.reduceAdd, Int.reduceSub, Int.reduceNeg, Int.reduceToNat, Int.reducePow, Nat.reducePow, Int.reduceMul, Int.reduceDiv, ↓s_delta_both_b0, hla, hlb, List.length_cons, qa, qb, decide_eq_false qa0, decide_eq_false qb0, leq_cmpS, decide_eq_true hle1, decide_eq_true hle2, hH1, hH2, hix1, hk1, hix2, hk2, hc1, hsl1, f21, hH3, f3, f31, hbl1', hc2, hsl2, hH4, f4, f41, hbl2', hcall]

theorem s_both_E (M : Nat) (Hz H : AHeap) (S : Nat → Prop) (f va vb : Value) (Inv : List Both → AHeap → Prop) (V : Vis M Hz S f Inv) (d : List Both) (hd : d.length < M) (x : Cg) (a : List Cg) (y : Cg) (b : List Cg) (ra : Sb H va (x :: a)) (rb : Sb H vb (y :: b)) (hin : Inv d H) (hgt : 0 < cmpS x.key y.key) :
    ∃ va' vb' H0 H', Still H H0 ∧ Inv (d ++ [(cg0, y, false, true)]) H' ∧ Sb H0 va' (x :: a) ∧ Sb H0 vb' b ∧ (∀ c, blockOf va' = some c → blockOf va = some c) ∧ (∀ c, blockOf vb' = some c → blockOf vb = some c) ∧
      ∀ K : K, l_delta_both_0 va vb f H (blkK [] 0 K) = l_delta_both_0 va' vb' f H' (blkK [] 0 K) := by
  have qa : (0 : Int) < (a.length : Int) + 1 := by omega
  have qa0 : ¬ (a.length : Int) + 1 = 0 := by omega
  have qb : (0 : Int) < (b.length : Int) + 1 := by omega
  have qb0 : ¬ (b.length : Int) + 1 = 0 := by omega
  have hle1 : ¬ cmpS x.key y.key ≤ 0 := by omega
  have hle2 : cmpS y.key x.key ≤ 0 := by have := cmpS_swap x.key y.key; omega
  have hla := ra.1.lenS
  have hlb := rb.1.lenS
  generalize hH1 : H.push (.cells [.string (mk []), .bool false, .bool false, .string (mk []), .string (mk [])] T.api_Change true) = H1
  have s1 : Still H H1 := by rw [← hH1]; exact (Fr.refl H).push _
  have n1 : H1.n = H.n + 1 := by rw [← hH1]; rfl
  have f1 : H1.f H.n = cgB cg0 := by rw [← hH1]; exact push_f_eq rfl
  generalize hH2 : H1.push (.cells [.string (mk []), .bool false, .bool false, .string (mk []), .string (mk [])] T.api_Change true) = H2
  have s2 : Still H1 H2 := by rw [← hH2]; exact (Fr.refl H1).push _
  have n2 : H2.n = H1.n + 1 := by rw [← hH2]; rfl
  have f2 : H2.f H1.n = cgB cg0 := by rw [← hH2]; exact push_f_eq rfl
  have f21 : H2.f H.n = cgB cg0 := by rw [s2.f (by omega) (fun h => h), f1]
  have s02 : Still H H2 := s1.still.then s2 fun _ _ h => h
  have f2 : H2.f H1.n = .cells [.string (mk []), .bool false, .bool false, .string (mk []), .string (mk [])] T.api_Change true := f2
  have f21 : H2.f H.n = .cells [.string (mk []), .bool false, .bool false, .string (mk []), .string (mk [])] T.api_Change true := f21
  obtain ⟨b1, o1, hix1, hb1, hc1, hbl1⟩ := ra.1.ix (q := .i64) (i := 0) (by simp)
  have hix1 : ixS 5 va (.int .i64 0) = some (.pointer (some ⟨b1, o1, none⟩)) := hix1
  have hk1 : cellB (H.f b1) o1 = some (.string x.key) := cutB_cell hc1 (i := 0) (by decide)
  have hc1 : cutB (H.f b1) o1 5 = some [.string x.key, .bool x.was, .bool x.is, .string x.before, .string x.after] := hc1
  obtain ⟨b2, o2, hix2, hb2, hc2, hbl2⟩ := rb.1.ix (q := .i64) (i := 0) (by simp)
  have hix2 : ixS 5 vb (.int .i64 0) = some (.pointer (some ⟨b2, o2, none⟩)) := hix2
  have hk2 : cellB (H.f b2) o2 = some (.string y.key) := cutB_cell hc2 (i := 0) (by decide)
  have hc2 : cutB (H.f b2) o2 5 = some [.string y.key, .bool y.was, .bool y.is, .string y.before, .string y.after] := hc2
  have s3 : Still H H2 := s02
  have hc2 : cutB (H2.f b2) o2 5 = some [.string y.key, .bool y.was, .bool y.is, .string y.before, .string y.after] := by rw [s3.f hb2 (fun h => h)]; exact hc2
  obtain ⟨vb', hsl2, rb', hbb⟩ := (rb.still s3).drop
  have hbl2' := hbl2
  unfold blockOf at hbl2'
  generalize hH4 : H2.set H1.n (.cells [.string y.key, .bool y.was, .bool y.is, .string y.before, .string y.after] T.api_Change true) = H4
  have s4 : Still H H4 := by rw [← hH4]; exact Fr.set s3 _ _ fun h => by omega
  have f4 : H4.f H1.n = .cells [.string y.key, .bool y.was, .bool y.is, .string y.before, .string y.after] T.api_Change true := by rw [← hH4]; exact set_f_eq
  have f41 : H4.f H.n = .cells [.string (mk []), .bool false, .bool false, .string (mk []), .string (mk [])] T.api_Change true := by rw [← hH4, set_f_ne (by omega), f21]
  have n4 : H4.n = H2.n := by rw [← hH4]; rfl
  have u4 : H4.ver b2 = H2.ver b2 := by rw [s4.ver hb2 (fun h => h), s3.ver hb2 (fun h => h)]
  have rA : Sb H4 va (x :: a) := ra.still s4
  have rB : Sb H4 vb' b := by
    rw [← hH4]
    exact rb'.keep (S := fun c => c = H1.n) (Fr.set (Fr.refl _) _ _ fun _ => rfl) fun c hc h => by rw [hbb, hbl2] at hc; cases hc; omega
  obtain ⟨r, H', hin', hcall⟩ := V.call d (cg0, y, false, true) H4 hd (V.still _ _ _ hin s4)
  refine ⟨va, vb', H4, H', s4, hin', rA, rB, fun c hc => hc, fun c hc => by rw [← hbb]; exact hc, fun K => ?_⟩
  have hcall : ∀ k : Value → AHeap → Res, callK Try.prog CC f [.agg #[.string (mk []), .bool false, .bool false, .string (mk []), .string (mk [])], .agg #[.string y.key, .bool y.was, .bool y.is, .string y.before, .string y.after], .bool false, .bool true] H4 k = k r H' := hcall
  rw [r_delta_both_0]
  simp (disch := first | with_reducible rfl | assumption | omega | rfl | (simp only [go_sem]; first | done | omega)) only [go_sem, ↓reduceIte, reduceCtorEq, Nat.reduceEqDiff, Nat.reduceAdd, Nat.reduceSub, Nat.reduceMul, Nat.reduceDiv, Nat.reduceMod, Nat.reduceLeDiff, Nat.reduceLT, Nat.reduceBEq, Int.reduceEq, Int.reduceBEq, Int.reduceBNe, Int.reduceLT, Int.reduceLE, Int.reduceAdd, Int.reduceSub, Int.reduceNeg, Int.reduceToNat, Int.reducePow, Nat.reducePow, Int.reduceMul, Int.reduceDiv, ↓s_delta_both_b0, hla, hlb, List.length_cons, qa, qb, decide_eq_false qa0, decide_eq_false qb0, leq_cmpS, decide_eq_false hle1, decide_eq_true hle2, hH1, hH2, hix1, hk1, hix2, hk2, f21, f2, hc2, hsl2, hH4, f4, f41, hbl2', hcall]

end Go.Proofs.Ytlbieadnfgfhlaa

/-
  Chapter 49: delta.both; the list that is appended to; of and Of.
  Conditions: none. By an AI agent.
-/
set_option maxRecDepth 10000
set_option linter.unusedSimpArgs false
set_option linter.unusedVariables false
namespace Go.Proofs.Ytlbieadnfgfhlaa
open Go Eng

theorem Sb.over {S : Nat → Prop} {Hz H H' : AHeap} {v : Value} {l : List Cg} (r : Sb H v l) (h : Fr S Hz H) (h' : Fr S Hz H') (hb : ∀ c, blockOf v = some c → c < Hz.n ∧ ¬ S c) : Sb H' v l := by
  obtain ⟨r1, r2⟩ := r
  have hf : ∀ c, blockOf v = some c → H'.f c = H.f c := fun c hc => by
    obtain ⟨h1, h2⟩ := hb c hc
    rw [h'.f h1 h2, h.f h1 h2]
  refine ⟨?_, ?_⟩
  · rcases r1 with r1 | r1 | ⟨b, o, c, rfl, hl, hbn, hc⟩
    · exact .inl r1
    · exact .inr (.inl r1)
    · exact .inr (.inr ⟨b, o, c, rfl, hl, Nat.lt_of_lt_of_le (hb b rfl).1 h'.n, by rw [hf b rfl]; exact hc⟩)
  · rcases r2 with r2 | ⟨b, o, code, rfl, hl, hc⟩
    · exact .inl r2
    · exact .inr ⟨b, o, code, rfl, hl, by rw [hf b rfl]; exact hc⟩

theorem mrg_len : ∀ (n : Nat) (a b : List Cg), a.length + b.length = n → (mrg a b).length ≤ n
  | 0, a, b, h => by
    have ha : a = [] := List.length_eq_zero_iff.1 (by omega)
    have hb : b = [] := List.length_eq_zero_iff.1 (by omega)
    subst ha hb
    simp [mrg]
  | n + 1, [], [], h => by simp [mrg]
  | n + 1, x :: a, [], h => by
    rw [mrg, List.length_cons]
    have := mrg_len n a [] (by simp at h ⊢; omega)
    omega
  | n + 1, [], y :: b, h => by
    rw [mrg, List.length_cons]
    have := mrg_len n [] b (by simp at h ⊢; omega)
    omega
  | n + 1, x :: a, y :: b, h => by
    rw [mrg]
    split
    · rw [List.length_cons]
      have := mrg_len n a (y :: b) (by simp at h ⊢; omega)
      omega
    · split
      · rw [List.length_cons]
        have := mrg_len (a.length + b.length) a b rfl
        simp at h
        omega
      · rw [List.length_cons]
        have := mrg_len n (x :: a) b (by simp at h ⊢; omega)
        omega

theorem l_both (M : Nat) (Hz : AHeap) (S : Nat → Prop) (f : Value) (Inv : List Both → AHeap → Prop) (V : Vis M Hz S f Inv) : ∀ (n : Nat) (a b : List Cg) (H : AHeap) (va vb : Value) (d : List Both), a.length + b.length = n → Sb H va a → Sb H vb b → Inv d H → (∀ c, blockOf va = some c → c < Hz.n ∧ ¬ S c) → (∀ c, blockOf vb = some c → c < Hz.n ∧ ¬ S c) → d.length + (mrg a b).length ≤ M →
    ∃ H', Inv (d ++ mrg a b) H' ∧ ∀ K : K, l_delta_both_0 va vb f H (blkK [] 0 K) = K .normal [] H' := by
  intro n
  induction n using Nat.strongRecOn with
  | ind n rec =>
    intro a b H va vb d hn ra rb hin ba bb hM
    have next : ∀ (a' b' : List Cg) (e : Both), mrg a b = e :: mrg a' b' → a'.length + b'.length < n → (∃ va' vb' H0 H', Still H H0 ∧ Inv (d ++ [e]) H' ∧ Sb H0 va' a' ∧ Sb H0 vb' b' ∧ (∀ c, blockOf va' = some c → blockOf va = some c) ∧ (∀ c, blockOf vb' = some c → blockOf vb = some c) ∧
        ∀ K : K, l_delta_both_0 va vb f H (blkK [] 0 K) = l_delta_both_0 va' vb' f H' (blkK [] 0 K)) → ∃ H', Inv (d ++ mrg a b) H' ∧ ∀ K : K, l_delta_both_0 va vb f H (blkK [] 0 K) = K .normal [] H' := by
      rintro a' b' e he hlt ⟨va', vb', H0, H1, s0, hin1, ra', rb', ha', hb', hstep⟩
      have hfr0 : Fr S Hz H0 := (V.fr _ _ hin).then s0 fun _ _ h => h.elim
      have hfr1 := V.fr _ _ hin1
      rw [he] at hM ⊢
      obtain ⟨H', r, ih⟩ := rec (a'.length + b'.length) hlt a' b' H1 va' vb' (d ++ [e]) rfl (ra'.over hfr0 hfr1 fun c hc => ba c (ha' c hc)) (rb'.over hfr0 hfr1 fun c hc => bb c (hb' c hc)) hin1 (fun c hc => ba c (ha' c hc)) (fun c hc => bb c (hb' c hc)) (by simp at hM ⊢; omega)
      exact ⟨H', by rw [List.append_assoc, List.singleton_append] at r; exact r, fun K => (hstep K).trans (ih K)⟩
    cases a with
    | nil =>
      cases b with
      | nil =>
        have hla := ra.1.lenS
        have hlb := rb.1.lenS
        refine ⟨H, by rw [mrg, List.append_nil]; exact hin, fun K => ?_⟩
        rw [r_delta_both_0]
        simp (disch := first | with_reducible rfl | assumption | omega | rfl | (simp only [go_sem]; first | done | omega)) only [go_sem, ↓reduceIte, reduceCtorEq, Nat.reduceEqDiff, Nat.reduceAdd, Nat.reduceSub, Nat.reduceMul, Nat.reduceDiv, Nat.reduceMod, Nat.reduceLeDiff, Nat.reduceLT, Nat.reduceBEq, Int.reduceEq, Int.reduceBEq, Int.reduceBNe, Int.reduceLT, Int.reduceLE, Int.reduceAdd, Int.reduceSub, Int.reduceNeg, Int.reduceToNat, Int.reducePow, Nat.reducePow, Int.reduceMul, Int.reduceDiv, ↓s_delta_both_b0, hla, hlb]
      | cons y b =>
        have e : mrg [] (y :: b) = (cg0, y, false, true) :: mrg [] b := by rw [mrg]
        rw [e] at hM
        exact next [] b _ e (by simp at hn ⊢; omega) (s_both_B M Hz H S f va vb Inv V d (by simp at hM; omega) y b ra rb hin)
    | cons x a =>
      cases b with
      | nil =>
        have e : mrg (x :: a) [] = (x, cg0, true, false) :: mrg a [] := by rw [mrg]
        rw [e] at hM
        exact next a [] _ e (by simp at hn ⊢; omega) (s_both_A M Hz H S f va vb Inv V d (by simp at hM; omega) x a ra rb hin)
      | cons y b =>
        by_cases h1 : cmpS x.key y.key < 0
        · have e : mrg (x :: a) (y :: b) = (x, cg0, true, false) :: mrg a (y :: b) := by rw [mrg, if_pos h1]
          rw [e] at hM
          exact next a (y :: b) _ e (by simp at hn ⊢; omega) (s_both_C M Hz H S f va vb Inv V d (by simp at hM; omega) x a y b ra rb hin h1)
        · by_cases h2 : cmpS x.key y.key = 0
          · have e : mrg (x :: a) (y :: b) = (x, y, true, true) :: mrg a b := by rw [mrg, if_neg h1, if_pos h2]
            rw [e] at hM
            exact next a b _ e (by simp at hn ⊢; omega) (s_both_D M Hz H S f va vb Inv V d (by simp at hM; omega) x a y b ra rb hin h2)
          · have e : mrg (x :: a) (y :: b) = (cg0, y, false, true) :: mrg (x :: a) b := by rw [mrg, if_neg h1, if_neg h2]
            rw [e] at hM
            exact next (x :: a) b _ e (by simp at hn ⊢; omega) (s_both_E M Hz H S f va vb Inv V d (by simp at hM; omega) x a y b ra rb hin (by omega))

/-! ### The list that is appended to -/
theorem litC (c : Cg) (H : AHeap) : Rd ECg (H.push (.cells [.string c.key, .bool c.was, .bool c.is, .string c.before, .string c.after] T.api_Change true)) (.slice (some ⟨H.n, 0, none⟩) 1 2) [c] := by
  refine .inr (.inr ⟨H.n, 0, 2, rfl, by simp, by simp, ?_⟩)
  rw [push_f_eq rfl]
  rfl
structure OutI (S : Nat → Prop) (Hz : AHeap) (bo : Nat) (acc : List Cg) (H : AHeap) : Prop where
  ok : Ok H
  fr : Fr S Hz H
  shi : ∀ c, S c → c < Hz.n
  sbo : S bo
  w : ∃ a n k, H.f bo = .cells [.slice a n k] T.sl_api_Change true ∧ Own ECg H T.api_Change (.slice a n k) acc ∧ ∀ c, blockOf (.slice a n k) = some c → Hz.n ≤ c
theorem OutI.lt {S : Nat → Prop} {Hz H : AHeap} {bo : Nat} {acc : List Cg} (t : OutI S Hz bo acc H) : bo < Hz.n := t.shi bo t.sbo
theorem OutI.still {S : Nat → Prop} {Hz H H' : AHeap} {bo : Nat} {acc : List Cg} (t : OutI S Hz bo acc H) (s : Still H H') : OutI S Hz bo acc H' := by
  obtain ⟨a, n, k, h1, h2, h3⟩ := t.w
  exact ⟨t.ok.fr s, t.fr.then s fun _ _ h => h.elim, t.shi, t.sbo, a, n, k, by rw [s.f (Nat.lt_of_lt_of_le t.lt t.fr.n) (fun h => h), h1], h2.still s, h3⟩
/-- Another cell is turned. -/
theorem OutI.other {S : Nat → Prop} {Hz H H' : AHeap} {bo bf : Nat} {acc : List Cg} (t : OutI S Hz bo acc H) (hf : S bf) (hne : bo ≠ bf) (s : Fr (fun c => c = bf) H H') : OutI S Hz bo acc H' := by
  obtain ⟨a, n, k, h1, h2, h3⟩ := t.w
  have hb := t.shi bf hf
  exact ⟨t.ok.fr s, t.fr.then s fun c _ h => by subst h; exact hf, t.shi, t.sbo, a, n, k, by rw [s.f (Nat.lt_of_lt_of_le t.lt t.fr.n) hne, h1], h2.keep s fun c hc h => by have := h3 c hc; omega, h3⟩
theorem Own.shapeG {α : Type} {E : Enc α} {H : AHeap} {e : TypeId} {v : Value} {l : List α} (r : Own E H e v l) : ∃ a n k, v = .slice a n k := by
  rcases r with ⟨_, h⟩ | ⟨_, a, h, _⟩ | ⟨b, o, c, xs, h, _⟩ <;> exact ⟨_, _, _, h⟩
theorem OutI.app {S : Nat → Prop} {Hz H : AHeap} {bo : Nat} {acc : List Cg} (t : OutI S Hz bo acc H) (hl : acc.length ≤ 1000000) (c : Cg) :
    ∃ a n k a' n' k' H2 H3, H.f bo = .cells [.slice a n k] T.sl_api_Change true ∧ Eng.app T.api_Change 5 56 (.slice a n k) (srcS 5 (.slice (some ⟨H.n, 0, none⟩) 1 2) (H.push (.cells [.string c.key, .bool c.was, .bool c.is, .string c.before, .string c.after] T.api_Change true))) (H.push (.cells [.string c.key, .bool c.was, .bool c.is, .string c.before, .string c.after] T.api_Change true)) = some (.slice a' n' k', H2) ∧
      H2.f bo = .cells [.slice a n k] T.sl_api_Change true ∧ H2.set bo (.cells [.slice a' n' k'] T.sl_api_Change true) = H3 ∧ OutI S Hz bo (acc ++ [c]) H3 ∧ H.clk ≤ H3.ver bo ∧ ∀ d, d < Hz.n → d ≠ bo → H3.f d = H.f d := by
  obtain ⟨a, n, k, h1, h2, h3⟩ := t.w
  have hbo := t.lt
  have hz := t.fr.n
  generalize hH1 : H.push (.cells [.string c.key, .bool c.was, .bool c.is, .string c.before, .string c.after] T.api_Change true) = H1
  have s1 : Still H H1 := by rw [← hH1]; exact (Fr.refl H).push _
  have n1 : H1.n = H.n + 1 := by rw [← hH1]; rfl
  have hlit := litC c H
  rw [hH1] at hlit
  obtain ⟨w, H2, happ, o2, fr2, hb2⟩ := (h2.still s1).appE (m := [c]) (sz := 5) (bytes := 56) rfl (by simp; omega) (by simp; omega) (hlit.src (sz := 5) rfl)
  obtain ⟨a', n', k', rfl⟩ := Own.shapeG o2
  have off : ∀ d, d < Hz.n → ¬ OnlyOf (.slice a n k) d := fun d hd hc => by have := h3 d hc; omega
  have n2 : H1.n ≤ H2.n := fr2.n
  have f2 : H2.f bo = .cells [.slice a n k] T.sl_api_Change true := by rw [fr2.f (by omega) (off bo hbo), s1.f (by omega) (fun h => h), h1]
  have hb2' : ∀ d, blockOf (.slice a' n' k') = some d → Hz.n ≤ d := fun d hd => by
    rcases hb2 with e | e
    · rw [e] at hd; exact h3 d hd
    · rw [e] at hd; cases hd; omega
  generalize hH3 : H2.set bo (.cells [.slice a' n' k'] T.sl_api_Change true) = H3
  have fr3 : Fr (fun c => c = bo) H2 H3 := by rw [← hH3]; exact Fr.set (Fr.refl H2) _ _ fun _ => rfl
  have f3 : H3.f bo = .cells [.slice a' n' k'] T.sl_api_Change true := by rw [← hH3]; exact set_f_eq
  have o3 : Own ECg H3 T.api_Change (.slice a' n' k') (acc ++ [c]) := o2.keep fr3 fun d hd h => by have := hb2' d hd; omega
  refine ⟨a, n, k, a', n', k', H2, H3, h1, happ, f2, hH3, ⟨((t.ok.fr s1).fr fr2).fr fr3, ?_, t.shi, t.sbo, a', n', k', f3, o3, hb2'⟩, ?_, fun d hd hne => ?_⟩
  · exact ((t.fr.then s1 fun _ _ h => h.elim).then fr2 fun d hd h => by have := h3 d h; omega).then fr3 fun d _ h => by subst h; exact t.sbo
  · rw [← hH3, set_v_eq]
    exact Nat.le_trans s1.clk fr2.clk
  · rw [fr3.f (by omega) hne, fr2.f (by omega) (off d hd), s1.f (by omega) (fun h => h)]
/-- Behind a call that may have been forgotten: then nothing was turned. -/
theorem OutI.tidied {S : Nat → Prop} {H H' : AHeap} {bo : Nat} {acc : List Cg} {X : Value} (ok : Ok H) (t0 : OutI S H bo [] H) (t : OutI S H bo acc H') : ∃ H'', tidy H (X, H') = (X, H'') ∧ OutI S H bo acc H'' ∧ ∀ c, c < H.n → H''.f c = H'.f c := by
  unfold tidy
  split
  · rename_i hg
    simp only [Bool.and_eq_true] at hg
    have hsame : ∀ c, c < H.n → H'.f c = H.f c := by
      intro c hc
      rcases t.fr.old c hc with h | ⟨h, _⟩
      · exact h.2
      · have := List.all_eq_true.1 hg.2 c (by simpa using hc)
        have := ok c
        simp at *
        omega
    refine ⟨H, rfl, ?_, fun c hc => (hsame c hc).symm⟩
    obtain ⟨a, n, k, h1, h2, h3⟩ := t0.w
    obtain ⟨a', n', k', h1', h2', h3'⟩ := t.w
    rw [hsame bo t0.lt, h1] at h1'
    cases h1'
    have hacc : acc = [] := by
      rcases h2' with ⟨h, _⟩ | ⟨h, _⟩ | ⟨b, o, c, xs, hv, _⟩
      · exact h
      · exact h
      · have hbl : blockOf (.slice a n k) = some b := by rw [hv]; rfl
        have e1 := h3 b hbl
        have e2 := h2.blk hbl
        omega
    rw [hacc]
    exact t0
  · exact ⟨H', rfl, t, fun c hc => rfl⟩

theorem q_bothR (M : Nat) (H : AHeap) (S : Nat → Prop) (f : Value) (Inv : List Both → AHeap → Prop) (V : Vis M H S f Inv) (a b : List Cg) (va vb : Value) (ra : Sb H va a) (rb : Sb H vb b) (hin : Inv [] H) (ba : ∀ c, blockOf va = some c → c < H.n ∧ ¬ S c) (bb : ∀ c, blockOf vb = some c → c < H.n ∧ ¬ S c) (hM : (mrg a b).length ≤ M) :
    ∃ H', CC F.delta_both [va, vb, f] H = some (tidy H (.tuple #[], H')) ∧ Inv (mrg a b) H' := by
  obtain ⟨H', r, hloop⟩ := l_both M H S f Inv V _ a b H va vb [] rfl ra rb hin ba bb (by simpa using hM)
  refine ⟨H', d_delta_both _ _ _ H (r := (.tuple #[], H')) ?_, by simpa using r⟩
  simp (disch := first | with_reducible rfl | assumption | omega | rfl | (simp only [go_sem]; first | done | omega)) only [go_sem, ↓reduceIte, reduceCtorEq, Nat.reduceEqDiff, Nat.reduceAdd, Nat.reduceSub, Nat.reduceMul, Nat.reduceDiv, Nat.reduceMod, Nat.reduceLeDiff, Nat.reduceLT, Nat.reduceBEq, Int.reduceEq, Int.reduceBEq, Int.reduceBNe, Int.reduceLT, Int.reduceLE, Int.reduceAdd, Int.reduceSub, Int.reduceNeg, Int.reduceToNat, Int.reducePow, Nat.reducePow, Int.reduceMul, Int.reduceDiv, ↓s_delta_both]
  refine (hloop _).trans ?_
  simp (disch := first | with_reducible rfl | assumption | omega | rfl | (simp only [go_sem]; first | done | omega)) only [go_sem, ↓reduceIte, reduceCtorEq, Nat.reduceEqDiff, Nat.reduceAdd, Nat.reduceSub, Nat.reduceMul, Nat.reduceDiv, Nat.reduceMod, Nat.reduceLeDiff, Nat.reduceLT, Nat.reduceBEq, Int.reduceEq, Int.reduceBEq, Int.reduceBNe, Int.reduceLT, Int.reduceLE, Int.reduceAdd, Int.reduceSub, Int.reduceNeg, Int.reduceToNat, Int.reducePow, Nat.reducePow, Int.reduceMul, Int.reduceDiv]

end Go.Proofs.Ytlbieadnfgfhlaa

/-
  Chapter 49: of and Of.
  Conditions: none. By an AI agent.
-/
set_option maxRecDepth 10000
set_option linter.unusedSimpArgs false
set_option linter.unusedVariables false
namespace Go.Proofs.Ytlbieadnfgfhlaa
open Go Eng

theorem any_tidied {P : AHeap → Prop} {H H' : AHeap} {X : Value} (hs : Still H H') (hp : P H') (hX : gr 9 X = true → P H) : ∃ H'', tidy H (X, H') = (X, H'') ∧ P H'' ∧ Still H H'' := by
  unfold tidy
  split
  · rename_i hg
    simp only [Bool.and_eq_true] at hg
    exact ⟨H, rfl, hX hg.1, Fr.refl H⟩
  · exact ⟨H', rfl, hp, hs⟩
theorem row_one {α : Type} {E : Enc α} {e : TypeId} {H H' : AHeap} {v : Value} {l : List α} (r : Own E H' e v l) (h : gr 9 v = true) : Own E H e v l := by
  rcases r with h' | ⟨_, a, rfl, _⟩ | ⟨b, o, c, xs, rfl, _⟩
  · exact .inl h'
  · exact absurd h (by simp [gr])
  · exact absurd h (by simp [gr])
theorem row_two {α : Type} {E : Enc α} {e : TypeId} {x : Int} {H H' : AHeap} {v : Value} {l : List α} (r : Own E H' e v l) (h : gr 9 (.tuple #[v, .int .i64 x]) = true) : Own E H e v l := by
  rcases r with h' | ⟨_, a, rfl, _⟩ | ⟨b, o, c, xs, rfl, _⟩
  · exact .inl h'
  · exact absurd h (by simp [gr])
  · exact absurd h (by simp [gr])

/-! ### of -/
def ofC (p : Pr) : Cg := ⟨p.key, false, true, mk [], p.value⟩
theorem l_of (l : List Pr) (v : Value) (Hz : AHeap) (hr0 : Rd EPr Hz v l) (hl : l.length ≤ 20000) : ∀ (x : List Pr) (i : Nat) (H : AHeap) (o : Value) (acc : List Cg), l.drop i = x → Still Hz H → Own ECg H T.api_Change o acc → (∀ d, blockOf o = some d → Hz.n ≤ d) → i ≤ l.length → acc.length ≤ i → ∃ o' H', Still Hz H' ∧ Own ECg H' T.api_Change o' (acc ++ x.map ofC) ∧ (∀ d, blockOf o' = some d → Hz.n ≤ d) ∧ ∀ K : K,
    l_delta_of_0 o v (.int .i64 (l.length : Int)) (.int .i64 (i : Int)) H (blkK [3] 0 K) = K .normal [(3, o')] H'
  | [], i, H, o, acc, hx, hs, ho, hob, hi, hacc => by
    have h : l.length ≤ i := List.drop_eq_nil_iff.1 hx
    have hlt : ¬ (i : Int) < (l.length : Int) := by omega
    refine ⟨o, H, hs, by simpa using ho, hob, fun K => ?_⟩
    rw [r_delta_of_0]
    simp (disch := first | with_reducible rfl | assumption | omega | rfl | (simp only [go_sem]; first | done | omega)) only [go_sem, ↓reduceIte, reduceCtorEq, Nat.reduceEqDiff, Nat.reduceAdd, Nat.reduceSub, Nat.reduceMul, Nat.reduceDiv, Nat.reduceMod, Nat.reduceLeDiff, Nat.reduceLT, Nat.reduceBEq, Int.reduceEq, Int.reduceBEq, Int.reduceBNe, Int.reduceLT, Int.reduceLE, Int.reduceAdd, Int.reduceSub, Int.reduceNeg, Int.reduceToNat, Int.reducePow, Nat.reducePow, Int.reduceMul, Int.reduceDiv, ↓s_delta_of_b0, hlt]
  | a :: x, i, H, o, acc, hx, hs, ho, hob, hi, hacc => by
    obtain ⟨h, hxa, hx'⟩ := drop_cons hx
    have hlt : (i : Int) < (l.length : Int) := by omega
    obtain ⟨b1, o1, hix1, hb1, hc1, _⟩ := (hr0.still hs).ix (q := .i64) h
    rw [hxa] at hc1
    have hix1 : ixS 2 v (.int .i64 i) = some (.pointer (some ⟨b1, o1, none⟩)) := hix1
    have hc1 : cutB (H.f b1) o1 2 = some [.string a.key, .string a.value] := hc1
    generalize hH1 : (H.push (.cells [.string (mk []), .string (mk [])] T.api_Pair true)).set H.n (.cells [.string a.key, .string a.value] T.api_Pair true) = H1
    have s1 : Still H H1 := by rw [← hH1]; exact Fr.set ((Fr.refl H).push _) _ _ (fun h => by omega)
    have n1 : H1.n = H.n + 1 := by rw [← hH1]; rfl
    have f1 : H1.f H.n = .cells [.string a.key, .string a.value] T.api_Pair true := by rw [← hH1]; exact set_f_eq
    generalize hH2 : H1.push (.cells [.string a.key, .bool false, .bool true, .string (mk []), .string a.value] T.api_Change true) = H2
    have s2 : Still H1 H2 := by rw [← hH2]; exact (Fr.refl H1).push _
    have n2 : H2.n = H1.n + 1 := by rw [← hH2]; rfl
    have hlit := litC (ofC a) H1
    rw [show H1.push (.cells [.string (ofC a).key, .bool (ofC a).was, .bool (ofC a).is, .string (ofC a).before, .string (ofC a).after] T.api_Change true) = H2 from hH2] at hlit
    have n0 : Hz.n ≤ H.n := hs.n
    obtain ⟨o', H3, happ, ho2, fr2, hb2⟩ := ((ho.still s1).still s2).appE (m := [ofC a]) (sz := 5) (bytes := 56) rfl (by simp; omega) (by simp; omega) (hlit.src (sz := 5) rfl)
    have hob' : ∀ d, blockOf o' = some d → Hz.n ≤ d := fun d hd => by
      rcases hb2 with hb | hb
      · rw [hb] at hd; exact hob d hd
      · rw [hb] at hd; cases hd; omega
    have s3 : Still Hz H3 := ((hs.then s1 fun _ _ h => h).still.then s2 fun _ _ h => h).still.then fr2 fun d hd h => by have := hob d h; omega
    obtain ⟨o'', H', q1, q2, q3, ih⟩ := l_of l v Hz hr0 hl x (i + 1) H3 o' (acc ++ [ofC a]) hx' s3 ho2 hob' h (by simp; omega)
    refine ⟨o'', H', q1, by rw [List.map_cons]; simpa using q2, q3, fun K => ?_⟩
    have ih := ih K
    rw [Int.natCast_add] at ih
    rw [r_delta_of_0]
    simp (disch := first | with_reducible rfl | assumption | omega | rfl | (simp only [go_sem]; first | done | omega)) only [go_sem, ↓reduceIte, reduceCtorEq, Nat.reduceEqDiff, Nat.reduceAdd, Nat.reduceSub, Nat.reduceMul, Nat.reduceDiv, Nat.reduceMod, Nat.reduceLeDiff, Nat.reduceLT, Nat.reduceBEq, Int.reduceEq, Int.reduceBEq, Int.reduceBNe, Int.reduceLT, Int.reduceLE, Int.reduceAdd, Int.reduceSub, Int.reduceNeg, Int.reduceToNat, Int.reducePow, Nat.reducePow, Int.reduceMul, Int.reduceDiv, ↓s_delta_of_b0, hlt, hix1, hc1, hH1, f1, hH2, happ]
    exact ih
theorem q_of (b : Nat) (l : List Pr) (H : AHeap) (r : Mdl H b l) (hl : l.length ≤ 20000) :
    ∃ v H', CC F.delta_of [.pointer (some ⟨b, 0, none⟩)] H = some (v, H') ∧ Own ECg H' T.api_Change v (l.map ofC) ∧ Still H H' ∧ New H v := by
  obtain ⟨v, H1, hp, ho, s1, hn1⟩ := q_Pairs b l H r (by omega)
  have n1 : H.n ≤ H1.n := s1.n
  obtain ⟨o, H2, hs, ho2, hob, hloop⟩ := l_of l v H1 ho.rd hl l 0 H1 (.slice none 0 0) [] rfl (Fr.refl H1) (.inl ⟨rfl, rfl⟩) (fun c h => by cases h) (by omega) (by simp)
  rw [List.nil_append] at ho2
  have hlen := ho.rd.lenS
  have s2 : Still H H2 := s1.still.then hs fun _ _ h => h
  obtain ⟨H'', hx, r', s'⟩ := any_tidied (P := fun G => Own ECg G T.api_Change o (l.map ofC)) (X := o) s2 ho2 fun hg => row_one ho2 hg
  refine ⟨o, H'', (d_delta_of _ H (r := (o, H2)) ?_).trans (congrArg some hx), r', s', fun d hd => by have := hob d hd; omega⟩
  simp (disch := first | with_reducible rfl | assumption | omega | rfl | (simp only [go_sem]; first | done | omega)) only [go_sem, ↓reduceIte, reduceCtorEq, Nat.reduceEqDiff, Nat.reduceAdd, Nat.reduceSub, Nat.reduceMul, Nat.reduceDiv, Nat.reduceMod, Nat.reduceLeDiff, Nat.reduceLT, Nat.reduceBEq, Int.reduceEq, Int.reduceBEq, Int.reduceBNe, Int.reduceLT, Int.reduceLE, Int.reduceAdd, Int.reduceSub, Int.reduceNeg, Int.reduceToNat, Int.reducePow, Nat.reducePow, Int.reduceMul, Int.reduceDiv, ↓s_delta_of, enterK_eq hp, hlen]
  refine (hloop _).trans ?_
  simp (disch := first | with_reducible rfl | assumption | omega | rfl | (simp only [go_sem]; first | done | omega)) only [go_sem, ↓reduceIte, reduceCtorEq, Nat.reduceEqDiff, Nat.reduceAdd, Nat.reduceSub, Nat.reduceMul, Nat.reduceDiv, Nat.reduceMod, Nat.reduceLeDiff, Nat.reduceLT, Nat.reduceBEq, Int.reduceEq, Int.reduceBEq, Int.reduceBNe, Int.reduceLT, Int.reduceLE, Int.reduceAdd, Int.reduceSub, Int.reduceNeg, Int.reduceToNat, Int.reducePow, Nat.reducePow, Int.reduceMul, Int.reduceDiv]

/-! ### Of -/
def maxS (a b : ByteArray) : ByteArray := if cmpS a b < 0 then b else a
@[go_sem] theorem max_str {ts : List TypeId} {a b : ByteArray} {H : AHeap} : xbuiltin Try.prog .max ts [.string a, .string b] H = some (.val (.string (maxS a b)) H) := by
  have e : xbuiltin Try.prog .max ts [.string a, .string b] H = some (.val (.string (if !(Op.bytesLess (bl a) (bl b)) then a else b)) H) := rfl
  rw [e, less_cmpS]
  unfold maxS
  by_cases h : cmpS a b < 0
  · simp [h]
  · simp [h]
def ofG (e : Both) : Cg := ⟨maxS e.1.key e.2.1.key, e.2.2.1, e.2.2.2, e.1.after, e.2.1.after⟩
def ofL (e : Both) : List Cg := if noneC (ofG e) = true then [] else [ofG e]

theorem q_Of_1 {S : Nat → Prop} (Hz H : AHeap) (bo : Nat) (acc : List Cg) (t : OutI S Hz bo acc H) (hl : acc.length ≤ 1000000) (e : Both) :
    ∃ r H', CC F.delta_Of_1 [cgV e.1, cgV e.2.1, .bool e.2.2.1, .bool e.2.2.2, .pointer (some ⟨bo, 0, none⟩)] H = some (r, H') ∧ OutI S Hz bo (acc ++ ofL e) H' := by
  obtain ⟨x, y, ia, ib⟩ := e
  generalize hH1 : H.push (.cells [.string x.key, .bool x.was, .bool x.is, .string x.before, .string x.after] T.api_Change true) = H1
  have s1 : Still H H1 := by rw [← hH1]; exact (Fr.refl H).push _
  have n1 : H1.n = H.n + 1 := by rw [← hH1]; rfl
  have f1 : H1.f H.n = .cells [.string x.key, .bool x.was, .bool x.is, .string x.before, .string x.after] T.api_Change true := by rw [← hH1]; exact push_f_eq rfl
  generalize hH2 : H1.push (.cells [.string y.key, .bool y.was, .bool y.is, .string y.before, .string y.after] T.api_Change true) = H2
  have s2 : Still H1 H2 := by rw [← hH2]; exact (Fr.refl H1).push _
  have n2 : H2.n = H1.n + 1 := by rw [← hH2]; rfl
  have f2 : H2.f H1.n = .cells [.string y.key, .bool y.was, .bool y.is, .string y.before, .string y.after] T.api_Change true := by rw [← hH2]; exact push_f_eq rfl
  have f21 : H2.f H.n = .cells [.string x.key, .bool x.was, .bool x.is, .string x.before, .string x.after] T.api_Change true := by rw [s2.f (by omega) (fun h => h), f1]
  generalize hc : ofG (x, y, ia, ib) = c
  have hck : c.key = maxS x.key y.key := by rw [← hc]; rfl
  have hcw : c.was = ia := by rw [← hc]; rfl
  have hci : c.is = ib := by rw [← hc]; rfl
  have hcb : c.before = x.after := by rw [← hc]; rfl
  have hca : c.after = y.after := by rw [← hc]; rfl
  generalize hH3 : (H2.push (.cells [.string (mk []), .bool false, .bool false, .string (mk []), .string (mk [])] T.api_Change true)).set H2.n (.cells [.string (maxS x.key y.key), .bool ia, .bool ib, .string x.after, .string y.after] T.api_Change true) = H3
  have s3 : Still H2 H3 := by rw [← hH3]; exact Fr.set ((Fr.refl H2).push _) _ _ (fun h => by omega)
  have n3 : H3.n = H2.n + 1 := by rw [← hH3]; rfl
  have f3 : H3.f H2.n = .cells [.string (maxS x.key y.key), .bool ia, .bool ib, .string x.after, .string y.after] T.api_Change true := by rw [← hH3]; exact set_f_eq
  have s03 : Still H H3 := (s1.still.then s2 fun _ _ h => h).still.then s3 fun _ _ h => h
  have hsame := q_dsame c H3
  rw [show cgV c = .agg #[.string (maxS x.key y.key), .bool ia, .bool ib, .string x.after, .string y.after] by unfold cgV; rw [hck, hcw, hci, hcb, hca]] at hsame
  have t3 := t.still s03
  unfold ofL
  rw [hc]
  cases hn : noneC c with
  | true =>
    rw [hn] at hsame
    rw [if_pos rfl, List.append_nil]
    refine ⟨.tuple #[], H, ?_, t⟩
    refine pure_of (H' := H3) ?_ (d_delta_Of_1 _ _ _ _ _ H) rfl s03
    simp (disch := first | with_reducible rfl | assumption | omega | rfl | (simp only [go_sem]; first | done | omega)) only [go_sem, ↓reduceIte, reduceCtorEq, Nat.reduceEqDiff, Nat.reduceAdd, Nat.reduceSub, Nat.reduceMul, Nat.reduceDiv, Nat.reduceMod, Nat.reduceLeDiff, Nat.reduceLT, Nat.reduceBEq, Int.reduceEq, Int.reduceBEq, Int.reduceBNe, Int.reduceLT, Int.reduceLE, Int.reduceAdd, Int.reduceSub, Int.reduceNeg, Int.reduceToNat, Int.reducePow, Nat.reducePow, Int.reduceMul, Int.reduceDiv, ↓s_delta_Of_1, hH1, hH2, f2, f21, hH3, f3, enterK_eq hsame]
  | false =>
    rw [hn] at hsame
    rw [if_neg (by simp)]
    obtain ⟨a, n, k, a', n', k', H4, H5, g1, g2, g3, g4, g5, g6, _⟩ := t3.app hl c
    rw [hck, hcw, hci, hcb, hca] at g2
    generalize hL : H3.push (.cells [.string (maxS x.key y.key), .bool ia, .bool ib, .string x.after, .string y.after] T.api_Change true) = HL at g2
    have hbo : bo < H.n := Nat.lt_of_lt_of_le t.lt t.fr.n
    refine ⟨.tuple #[], H5, (d_delta_Of_1 _ _ _ _ _ H (r := (.tuple #[], H5)) ?_).trans (congrArg some (tidy_turned hbo (t.ok bo) (Nat.le_trans s03.clk g6))), g5⟩
    simp (disch := first | with_reducible rfl | assumption | omega | rfl | (simp only [go_sem]; first | done | omega)) only [go_sem, ↓reduceIte, reduceCtorEq, Nat.reduceEqDiff, Nat.reduceAdd, Nat.reduceSub, Nat.reduceMul, Nat.reduceDiv, Nat.reduceMod, Nat.reduceLeDiff, Nat.reduceLT, Nat.reduceBEq, Int.reduceEq, Int.reduceBEq, Int.reduceBNe, Int.reduceLT, Int.reduceLE, Int.reduceAdd, Int.reduceSub, Int.reduceNeg, Int.reduceToNat, Int.reducePow, Nat.reducePow, Int.reduceMul, Int.reduceDiv, ↓s_delta_Of_1, hH1, hH2, f2, f21, hH3, f3, enterK_eq hsame, g1, hL, g2, g3, g4]


theorem len_flat {g : Both → List Cg} (hg : ∀ e, (g e).length ≤ 1) : ∀ d : List Both, (d.flatMap g).length ≤ d.length
  | [] => by simp
  | e :: d => by
    have h1 := len_flat hg d
    have h2 := hg e
    rw [List.flatMap_cons, List.length_append, List.length_cons]
    omega
theorem ofL_len (e : Both) : (ofL e).length ≤ 1 := by unfold ofL; split <;> simp
def deltaOf (a b : List Pr) : List Cg := (mrg (a.map ofC) (b.map ofC)).flatMap ofL

theorem q_Of (ba bb : Nat) (a b : List Pr) (H : AHeap) (ok : Ok H) (ra : Mdl H ba a) (rb : Mdl H bb b) (hla : a.length ≤ 10000) (hlb : b.length ≤ 10000) :
    ∃ v H', CC F.delta_Of [.pointer (some ⟨ba, 0, none⟩), .pointer (some ⟨bb, 0, none⟩)] H = some (.tuple #[v, .int .i64 0], H') ∧ Own ECg H' T.api_Change v (deltaOf a b) ∧ Still H H' ∧ New H v ∧ (deltaOf a b).length ≤ 20000 := by
  generalize hH1 : H.push (.cells [.slice none 0 0] T.sl_api_Change true) = H1
  have s1 : Still H H1 := by rw [← hH1]; exact (Fr.refl H).push _
  have n1 : H1.n = H.n + 1 := by rw [← hH1]; rfl
  have f1 : H1.f H.n = .cells [.slice none 0 0] T.sl_api_Change true := by rw [← hH1]; exact push_f_eq rfl
  obtain ⟨va, H2, hofa, oa, s2, na⟩ := q_of ba a H1 (ra.still s1) (by omega)
  have s12 : Still H H2 := s1.still.then s2 fun _ _ h => h
  obtain ⟨vb, H3, hofb, ob, s3, nb⟩ := q_of bb b H2 (rb.still s12) (by omega)
  have s13 : Still H H3 := s12.still.then s3 fun _ _ h => h
  have n2 : H1.n ≤ H2.n := s2.n
  have n3 : H2.n ≤ H3.n := s3.n
  have ok3 : Ok H3 := ok.fr s13
  have f3 : H3.f H.n = .cells [.slice none 0 0] T.sl_api_Change true := by rw [s3.f (by omega) (fun h => h), s2.f (by omega) (fun h => h), f1]
  have oa3 := oa.still s3
  have t3 : OutI (fun c => c = H.n) H3 H.n [] H3 := ⟨ok3, Fr.refl H3, fun c hc => by omega, rfl, none, 0, 0, f3, .inl ⟨rfl, rfl⟩, fun c hc => by cases hc⟩
  have hml := mrg_len _ (a.map ofC) (b.map ofC) rfl
  simp only [List.length_map] at hml
  have V : Vis 20000 H3 (fun c => c = H.n) (.func (.func F.delta_Of_1) #[] #[.pointer (some ⟨H.n, 0, none⟩)]) (fun d G => d.length ≤ 20000 ∧ OutI (fun c => c = H.n) H3 H.n (d.flatMap ofL) G) := by
    refine ⟨fun d G h => h.2.fr, fun d G G' h s => ⟨h.1, h.2.still s⟩, fun d e G hd h => ?_⟩
    obtain ⟨r, G', hc, t'⟩ := q_Of_1 H3 G H.n _ h.2 (by have := len_flat ofL_len d; omega) e
    refine ⟨r, G', ⟨by simp; omega, by rw [List.flatMap_append]; simpa using t'⟩, fun k => ?_⟩
    rw [c_delta_Of_1]
    exact enterK_eq hc
  obtain ⟨H4, hboth, _, t4⟩ := q_bothR 20000 H3 _ _ _ V (a.map ofC) (b.map ofC) va vb (Sb.of oa3) (Sb.of ob) ⟨by simp, t3⟩
    (fun c hc => by have h1 := oa3.blk hc; have h2 := na c hc; omega) (fun c hc => by have h1 := ob.blk hc; have h2 := nb c hc; omega) (by omega)
  obtain ⟨H5, hx, t5, _⟩ := t3.tidied (X := .tuple #[]) ok3 t4
  rw [hx] at hboth
  have hlen : (deltaOf a b).length ≤ 20000 := by
    have h1 := len_flat ofL_len (mrg (a.map ofC) (b.map ofC))
    show ((mrg (a.map ofC) (b.map ofC)).flatMap ofL).length ≤ 20000
    omega
  obtain ⟨aw, nw, kw, g1, g2, g3⟩ := t5.w
  have hgt : ¬ 20000 < ((deltaOf a b).length : Int) := by omega
  have hls := g2.rd.lenS
  have s5 : Still H H5 := s13.still.then t5.fr fun c hc h => by omega
  have g2' : Own ECg H5 T.api_Change (.slice aw nw kw) (deltaOf a b) := g2
  have hls : lenS (.slice aw nw kw) = some (.int .i64 ((deltaOf a b).length : Int)) := g2'.rd.lenS
  obtain ⟨H6, hx6, o6, s6⟩ := any_tidied (P := fun G => Own ECg G T.api_Change (.slice aw nw kw) (deltaOf a b)) (X := .tuple #[.slice aw nw kw, .int .i64 0]) s5 g2' fun hg => row_two g2' hg
  refine ⟨.slice aw nw kw, H6, (d_delta_Of _ _ H (r := (.tuple #[.slice aw nw kw, .int .i64 0], H5)) ?_).trans (congrArg some hx6), o6, s6, fun c hc => by have := g3 c hc; omega, hlen⟩
  simp (disch := first | with_reducible rfl | assumption | omega | rfl | (simp only [go_sem]; first | done | omega)) only [go_sem, ↓reduceIte, reduceCtorEq, Nat.reduceEqDiff, Nat.reduceAdd, Nat.reduceSub, Nat.reduceMul, Nat.reduceDiv, Nat.reduceMod, Nat.reduceLeDiff, Nat.reduceLT, Nat.reduceBEq, Int.reduceEq, Int.reduceBEq, Int.reduceBNe, Int.reduceLT, Int.reduceLE, Int.reduceAdd, Int.reduceSub, Int.reduceNeg, Int.reduceToNat, Int.reducePow, Nat.reducePow, Int.reduceMul, Int.reduceDiv, ↓s_delta_Of, mp_some, hH1, enterK_eq hofa, enterK_eq hofb, enterK_eq hboth, g1, hls, decide_eq_false hgt]

end Go.Proofs.Ytlbieadnfgfhlaa

/-
  Chapter 49: merged lists of changes, in plain words; the law's between.
  Conditions: none. By an AI agent.
-/
set_option maxRecDepth 10000
set_option linter.unusedSimpArgs false
set_option linter.unusedVariables false
namespace Go.Proofs.Ytlbieadnfgfhlaa
open Go Eng

/-! ### Sorted keys -/
def SrtK (l : List ByteArray) : Prop := l.Pairwise fun a b => cmpS a b < 0
theorem srtK_ext : ∀ {c l : List ByteArray} (_ : SrtK c) (_ : SrtK l), (∀ a, a ∈ c ↔ a ∈ l) → c = l
  | [], [], _, _, _ => rfl
  | [], b :: l, _, _, h => by have := (h b).2 (by simp); cases this
  | a :: c, [], _, _, h => by have := (h a).1 (by simp); cases this
  | a :: c, b :: l, hc, hl, h => by
    obtain ⟨ha, hc'⟩ := List.pairwise_cons.1 hc
    obtain ⟨hb, hl'⟩ := List.pairwise_cons.1 hl
    have e : a = b := by
      rcases List.mem_cons.1 ((h a).1 (by simp)) with h1 | h1
      · exact h1
      · rcases List.mem_cons.1 ((h b).2 (by simp)) with h2 | h2
        · exact h2.symm
        · have := cmpS_trans (ha b h2) (hb a h1)
          rw [cmpS_self] at this
          omega
    subst e
    rw [srtK_ext hc' hl' fun x => ?_]
    constructor
    · intro hx
      rcases List.mem_cons.1 ((h x).1 (List.mem_cons_of_mem _ hx)) with h1 | h1
      · have := ha x hx
        rw [h1, cmpS_self] at this
        omega
      · exact h1
    · intro hx
      rcases List.mem_cons.1 ((h x).2 (List.mem_cons_of_mem _ hx)) with h1 | h1
      · have := hb x hx
        rw [h1, cmpS_self] at this
        omega
      · exact h1

/-! ### Merged lists -/
def SrtC (l : List Cg) : Prop := l.Pairwise fun a b => cmpS a.key b.key < 0
def findC (l : List Cg) (k : ByteArray) : Option Cg := l.find? fun c => decide (c.key = k)
def mkB : Option Cg → Option Cg → Both
  | some x, some y => (x, y, true, true)
  | some x, none => (x, cg0, true, false)
  | none, some y => (cg0, y, false, true)
  | none, none => (cg0, cg0, false, false)
def keyB (e : Both) : ByteArray := if e.2.2.1 = true then e.1.key else e.2.1.key
def mkeys (a b : List Cg) : List ByteArray := (mrg a b).map keyB

theorem findC_none {l : List Cg} {k : ByteArray} (h : ∀ c ∈ l, ¬ c.key = k) : findC l k = none := by
  unfold findC
  rw [List.find?_eq_none]
  simpa using h
theorem findC_cons (c : Cg) (l : List Cg) (k : ByteArray) : findC (c :: l) k = if c.key = k then some c else findC l k := by
  unfold findC
  rw [List.find?_cons]
  by_cases h : c.key = k <;> simp [h]
theorem findC_mem {l : List Cg} (hs : SrtC l) {c : Cg} (h : c ∈ l) : findC l c.key = some c := by
  induction l with
  | nil => cases h
  | cons b l ih =>
    obtain ⟨hb, hl⟩ := List.pairwise_cons.1 hs
    rw [findC_cons]
    rcases List.mem_cons.1 h with rfl | h
    · rw [if_pos rfl]
    · rw [if_neg fun e => by have := hb c h; rw [e, cmpS_self] at this; omega]
      exact ih hl h
theorem findC_some {l : List Cg} {k : ByteArray} {c : Cg} (h : findC l k = some c) : c ∈ l ∧ c.key = k :=
  ⟨List.mem_of_find?_eq_some h, by simpa using List.find?_some h⟩
theorem findC_lt {l : List Cg} {x : Cg} (hs : SrtC (x :: l)) {k : ByteArray} (h : cmpS x.key k < 0) : findC (x :: l) k = findC l k := by
  rw [findC_cons, if_neg fun e => by rw [e, cmpS_self] at h; omega]
theorem findC_gt {l : List Cg} {x : Cg} (hs : SrtC (x :: l)) {k : ByteArray} (h : cmpS k x.key < 0) : findC (x :: l) k = none := by
  obtain ⟨hb, hl⟩ := List.pairwise_cons.1 hs
  refine findC_none fun c hc e => ?_
  rcases List.mem_cons.1 hc with rfl | hc
  · rw [e, cmpS_self] at h; omega
  · have := cmpS_trans h (hb c hc)
    rw [e, cmpS_self] at this
    omega

/-- The keys of merged lists are those of both, in order; and what is told of a key is what the lists have there. -/
theorem mrg_spec : ∀ (n : Nat) (a b : List Cg), a.length + b.length = n → SrtC a → SrtC b → (∀ k, k ∈ mkeys a b ↔ (∃ x ∈ a, x.key = k) ∨ ∃ y ∈ b, y.key = k) ∧ SrtK (mkeys a b) ∧ mrg a b = (mkeys a b).map fun k => mkB (findC a k) (findC b k) := by
  intro n
  induction n using Nat.strongRecOn with
  | ind n ih =>
    intro a b hn ha hb
    -- a new first key in front of merged rests
    have front : ∀ (a' b' : List Cg) (e : Both), mrg a b = e :: mrg a' b' → a'.length + b'.length < n → SrtC a' → SrtC b' →
        (∀ k, ((∃ x ∈ a, x.key = k) ∨ ∃ y ∈ b, y.key = k) ↔ k = keyB e ∨ (∃ x ∈ a', x.key = k) ∨ ∃ y ∈ b', y.key = k) →
        (∀ k, ((∃ x ∈ a', x.key = k) ∨ ∃ y ∈ b', y.key = k) → cmpS (keyB e) k < 0 ∧ findC a k = findC a' k ∧ findC b k = findC b' k) → e = mkB (findC a (keyB e)) (findC b (keyB e)) →
        (∀ k, k ∈ mkeys a b ↔ (∃ x ∈ a, x.key = k) ∨ ∃ y ∈ b, y.key = k) ∧ SrtK (mkeys a b) ∧ mrg a b = (mkeys a b).map fun k => mkB (findC a k) (findC b k) := by
      intro a' b' e he hlt sa sb hk hgt hee
      obtain ⟨i1, i2, i3⟩ := ih _ hlt a' b' rfl sa sb
      have hm : mkeys a b = keyB e :: mkeys a' b' := by unfold mkeys; rw [he, List.map_cons]
      refine ⟨fun k => ?_, ?_, ?_⟩
      · rw [hm, List.mem_cons, i1 k]; exact (hk k).symm
      · rw [hm]
        exact List.pairwise_cons.2 ⟨fun k hk' => (hgt k ((i1 k).1 hk')).1, i2⟩
      · rw [hm, he, List.map_cons, ← hee, i3]
        congr 1
        have e2 : mkeys a' b' = (mrg a' b').map keyB := rfl
        refine List.map_congr_left fun k hk' => ?_
        obtain ⟨_, h1, h2⟩ := hgt k ((i1 k).1 hk')
        rw [h1, h2]
    cases a with
    | nil =>
      cases b with
      | nil => simp [mkeys, mrg, SrtK]
      | cons y b =>
        obtain ⟨hy, hb'⟩ := List.pairwise_cons.1 hb
        refine front [] b (cg0, y, false, true) (by rw [mrg]) (by simp at hn ⊢; omega) ha hb' (fun k => ?_) (fun k hk => ?_) ?_
        · simp [keyB, eq_comm]
        · rcases hk with ⟨x, hx, _⟩ | ⟨z, hz, rfl⟩
          · cases hx
          · exact ⟨hy z hz, rfl, findC_lt hb (hy z hz)⟩
        · simp [keyB, findC, mkB]
    | cons x a =>
      obtain ⟨hx, ha'⟩ := List.pairwise_cons.1 ha
      cases b with
      | nil =>
        refine front a [] (x, cg0, true, false) (by rw [mrg]) (by simp at hn ⊢; omega) ha' hb (fun k => ?_) (fun k hk => ?_) ?_
        · simp [keyB, eq_comm]
        · rcases hk with ⟨z, hz, rfl⟩ | ⟨z, hz, _⟩
          · exact ⟨hx z hz, findC_lt ha (hx z hz), rfl⟩
          · cases hz
        · simp [keyB, findC, mkB]
      | cons y b =>
        obtain ⟨hy, hb'⟩ := List.pairwise_cons.1 hb
        by_cases h1 : cmpS x.key y.key < 0
        · refine front a (y :: b) (x, cg0, true, false) (by rw [mrg, if_pos h1]) (by simp at hn ⊢; omega) ha' hb (fun k => ?_) (fun k hk => ?_) ?_
          · simp only [List.mem_cons, keyB, if_true]
            constructor
            · rintro (⟨z, rfl | hz, rfl⟩ | h)
              · exact .inl rfl
              · exact .inr (.inl ⟨z, hz, rfl⟩)
              · exact .inr (.inr h)
            · rintro (rfl | ⟨z, hz, rfl⟩ | h)
              · exact .inl ⟨x, .inl rfl, rfl⟩
              · exact .inl ⟨z, .inr hz, rfl⟩
              · exact .inr h
          · have hk' : cmpS x.key k < 0 := by
              rcases hk with ⟨z, hz, rfl⟩ | ⟨z, hz, rfl⟩
              · exact hx z hz
              · rcases List.mem_cons.1 hz with rfl | hz
                · exact h1
                · exact cmpS_trans h1 (hy z hz)
            exact ⟨hk', findC_lt ha hk', rfl⟩
          · have e1 : findC (x :: a) x.key = some x := by rw [findC_cons, if_pos rfl]
            have e2 : findC (y :: b) x.key = none := findC_gt hb h1
            simp only [keyB, if_true, e1, e2, mkB]
        · by_cases h2 : cmpS x.key y.key = 0
          · have hxy : x.key = y.key := cmpS_eq.1 h2
            refine front a b (x, y, true, true) (by rw [mrg, if_neg h1, if_pos h2]) (by simp at hn ⊢; omega) ha' hb' (fun k => ?_) (fun k hk => ?_) ?_
            · simp only [List.mem_cons, keyB, if_true]
              constructor
              · rintro (⟨z, rfl | hz, rfl⟩ | ⟨z, rfl | hz, rfl⟩)
                · exact .inl rfl
                · exact .inr (.inl ⟨z, hz, rfl⟩)
                · exact .inl hxy.symm
                · exact .inr (.inr ⟨z, hz, rfl⟩)
              · rintro (rfl | ⟨z, hz, rfl⟩ | ⟨z, hz, rfl⟩)
                · exact .inl ⟨x, .inl rfl, rfl⟩
                · exact .inl ⟨z, .inr hz, rfl⟩
                · exact .inr ⟨z, .inr hz, rfl⟩
            · have hk' : cmpS x.key k < 0 := by
                rcases hk with ⟨z, hz, rfl⟩ | ⟨z, hz, rfl⟩
                · exact hx z hz
                · rw [hxy]; exact hy z hz
              exact ⟨hk', findC_lt ha hk', findC_lt hb (by rw [← hxy]; exact hk')⟩
            · have e1 : findC (x :: a) x.key = some x := by rw [findC_cons, if_pos rfl]
              have e2 : findC (y :: b) x.key = some y := by rw [findC_cons, if_pos hxy.symm]
              simp only [keyB, if_true, e1, e2, mkB]
          · have h3 : cmpS y.key x.key < 0 := by have := cmpS_swap x.key y.key; omega
            refine front (x :: a) b (cg0, y, false, true) (by rw [mrg, if_neg h1, if_neg h2]) (by simp at hn ⊢; omega) ha hb' (fun k => ?_) (fun k hk => ?_) ?_
            · simp only [List.mem_cons, keyB, Bool.false_eq_true, if_false]
              constructor
              · rintro (h | ⟨z, rfl | hz, rfl⟩)
                · exact .inr (.inl h)
                · exact .inl rfl
                · exact .inr (.inr ⟨z, hz, rfl⟩)
              · rintro (rfl | h | ⟨z, hz, rfl⟩)
                · exact .inr ⟨y, .inl rfl, rfl⟩
                · exact .inl h
                · exact .inr ⟨z, .inr hz, rfl⟩
            · have hk' : cmpS y.key k < 0 := by
                rcases hk with ⟨z, hz, rfl⟩ | ⟨z, hz, rfl⟩
                · rcases List.mem_cons.1 hz with rfl | hz
                  · exact h3
                  · exact cmpS_trans h3 (hx z hz)
                · exact hy z hz
              exact ⟨hk', rfl, findC_lt hb hk'⟩
            · have e1 : findC (x :: a) y.key = none := findC_gt ha h3
              have e2 : findC (y :: b) y.key = some y := by rw [findC_cons, if_pos rfl]
              simp only [keyB, Bool.false_eq_true, if_false, e1, e2, mkB]

end Go.Proofs.Ytlbieadnfgfhlaa

/-
  Chapter 49: the law's between is Of.
  Conditions: none. By an AI agent.
-/
set_option maxRecDepth 10000
set_option linter.unusedSimpArgs false
set_option linter.unusedVariables false
namespace Go.Proofs.Ytlbieadnfgfhlaa
open Go Eng

/-! ### In plain words -/
def mkc (a b : List Pr) (k : ByteArray) : Cg := ⟨k, (val a k).isSome, (val b k).isSome, (val a k).getD (mk []), (val b k).getD (mk [])⟩
def mkcL (a b : List Pr) (k : ByteArray) : List Cg := if noneC (mkc a b k) = true then [] else [mkc a b k]
def keysC (a b : List Pr) : List Pr := fillF a (b.map fun p => ⟨p.key, mk []⟩)
def betw (a b : List Pr) : List Cg := ((keysC a b).map Pr.key).flatMap (mkcL a b)

theorem ex_map {α β : Type} {f : α → β} {l : List α} {P : β → Prop} : (∃ x ∈ l.map f, P x) ↔ ∃ a ∈ l, P (f a) := by
  constructor
  · rintro ⟨x, hx, hp⟩
    obtain ⟨a, ha, rfl⟩ := List.mem_map.1 hx
    exact ⟨a, ha, hp⟩
  · rintro ⟨a, ha, hp⟩
    exact ⟨f a, List.mem_map.2 ⟨a, ha, rfl⟩, hp⟩
theorem flat_congr {α β : Type} {f g : α → List β} : ∀ {l : List α}, (∀ k ∈ l, f k = g k) → l.flatMap f = l.flatMap g
  | [], _ => rfl
  | a :: l, h => by rw [List.flatMap_cons, List.flatMap_cons, h a (by simp), flat_congr fun k hk => h k (List.mem_cons_of_mem _ hk)]
theorem has_val {l : List Pr} {k : ByteArray} : (∃ a ∈ l, a.key = k) ↔ (val l k).isSome = true := by
  constructor
  · rintro ⟨a, ha, rfl⟩
    unfold val
    cases h : l.find? fun b => decide (b.key = a.key) with
    | none => rw [List.find?_eq_none] at h; have := h a ha; simp at this
    | some b => rfl
  · intro h
    cases hf : l.find? fun b => decide (b.key = k) with
    | none => unfold val at h; rw [hf] at h; cases h
    | some b => exact ⟨b, List.mem_of_find?_eq_some hf, by simpa using List.find?_some hf⟩
theorem has_put {l : List Pr} (f : Fine l) {p : Pr} (hk : chk p.key [p.value] = 0) (hl : l.length < 20000) (k : ByteArray) : (val (putE l p).2 k).isSome = true ↔ (val l k).isSome = true ∨ p.key = k := by
  cases h : val l p.key with
  | some v =>
    obtain ⟨l', e, _, h1, h2⟩ := put_is f.srt hk h
    rw [show putE l p = (0, l') from e]
    by_cases hpk : p.key = k
    · subst hpk; simp [h1]
    · rw [h2 k hpk]; simp [hpk]
  | none =>
    have he := eff_put f.srt p
    have hi := notP_val f.srt h
    have e1 : (putP l p (posP l p.key)).1 = 0 := by unfold putP; simp only [hi, Bool.false_eq_true, if_false]; rw [if_neg (by omega)]
    have e2 : putE l p = putP l p (posP l p.key) := by unfold putE; rw [if_pos hk]
    rw [e2]
    by_cases hpk : p.key = k
    · subst hpk; rw [he.self e1]; simp
    · rw [he.other k hpk]; simp [hpk]
theorem has_fill : ∀ (m acc : List Pr), Fine acc → (∀ p ∈ m, chk p.key [p.value] = 0) → acc.length + m.length ≤ 20000 → ∀ k, (val (fillF acc m) k).isSome = true ↔ (val acc k).isSome = true ∨ ∃ p ∈ m, p.key = k
  | [], acc, f, hm, hl, k => by simp [fillF]
  | p :: m, acc, f, hm, hl, k => by
    simp only [List.length_cons] at hl
    have h1 := has_fill m (putE acc p).2 (f.put p) (fun q hq => hm q (List.mem_cons_of_mem _ hq)) (by have := put_len acc p; omega) k
    show (val (fillF (putE acc p).2 m) k).isSome = true ↔ _
    rw [h1, has_put f (hm p (by simp)) (by omega) k]
    simp only [List.mem_cons, exists_eq_or_imp]
    rw [or_assoc]

theorem findC_of (a : List Pr) (k : ByteArray) : findC (a.map ofC) k = (val a k).map fun v => ⟨k, false, true, mk [], v⟩ := by
  induction a with
  | nil => rfl
  | cons p a ih =>
    rw [List.map_cons, findC_cons, val_cons]
    by_cases h : p.key = k
    · subst h
      rw [if_pos (show (ofC p).key = p.key from rfl), if_pos rfl]
      rfl
    · rw [if_neg (show ¬ (ofC p).key = k from h), if_neg h, ih]
theorem cmp_nil (k : ByteArray) : ¬ cmpS k (mk []) < 0 := by
  show ¬ Lib.compareBytes (bl k) (bl (mk [])) < 0
  rw [bl_mk]
  cases bl k <;> simp [Lib.compareBytes]
theorem max_self (k : ByteArray) : maxS k k = k := by unfold maxS; split <;> rfl
theorem max_nil (k : ByteArray) : maxS k (mk []) = k := by unfold maxS; rw [if_neg (cmp_nil k)]
theorem nil_max (k : ByteArray) : maxS (mk []) k = k := by
  unfold maxS
  split
  · rfl
  · rename_i h
    have h2 := cmpS_swap k (mk [])
    have h3 := cmp_nil k
    exact cmpS_eq.1 (by omega)
theorem ofG_mkc (a b : List Pr) (k : ByteArray) (h : (val a k).isSome = true ∨ (val b k).isSome = true) : ofG (mkB (findC (a.map ofC) k) (findC (b.map ofC) k)) = mkc a b k := by
  rw [findC_of, findC_of]
  unfold mkc
  cases ha : val a k with
  | some v =>
    cases hb : val b k with
    | some w => simp [mkB, ofG, max_self]
    | none => simp [mkB, ofG, cg0, max_nil]
  | none =>
    cases hb : val b k with
    | some w => simp [mkB, ofG, cg0, nil_max]
    | none => rw [ha, hb] at h; simp at h
theorem srtC_of {a : List Pr} (hs : Srt a) : SrtC (a.map ofC) := List.pairwise_map.2 hs
theorem deltaOf_keys {a b : List Pr} (ha : Srt a) (hb : Srt b) : deltaOf a b = (mkeys (a.map ofC) (b.map ofC)).flatMap (mkcL a b) ∧ SrtK (mkeys (a.map ofC) (b.map ofC)) ∧ ∀ k, k ∈ mkeys (a.map ofC) (b.map ofC) ↔ (val a k).isSome = true ∨ (val b k).isSome = true := by
  obtain ⟨h1, h2, h3⟩ := mrg_spec _ (a.map ofC) (b.map ofC) rfl (srtC_of ha) (srtC_of hb)
  have hm : ∀ k, k ∈ mkeys (a.map ofC) (b.map ofC) ↔ (val a k).isSome = true ∨ (val b k).isSome = true := by
    intro k
    rw [h1, ← has_val, ← has_val, ex_map, ex_map]
    rfl
  refine ⟨?_, h2, hm⟩
  unfold deltaOf
  rw [h3, List.flatMap_map]
  refine flat_congr fun k hk => ?_
  unfold ofL mkcL
  rw [ofG_mkc a b k ((hm k).1 hk)]
theorem betw_eq {a b : List Pr} (ha : Fine a) (hb : Fine b) (hl : a.length + b.length ≤ 20000) : betw a b = deltaOf a b := by
  obtain ⟨h1, h2, h3⟩ := deltaOf_keys ha.srt hb.srt
  rw [h1]
  unfold betw
  congr 1
  have hf : Fine (keysC a b) := ha.fill
  refine srtK_ext (List.pairwise_map.2 hf.srt) h2 fun k => ?_
  rw [h3]
  have := has_fill (b.map fun p => ⟨p.key, mk []⟩) a ha (fun p hp => by
    obtain ⟨q, hq, rfl⟩ := List.mem_map.1 hp
    have := (chk_len q.key q.value).1 (hb.ok q hq)
    refine (chk_len q.key (mk [])).2 ⟨this.1, this.2.1, ?_⟩
    rw [bl_mk]; simp) (by simpa using hl) k
  show k ∈ (fillF a (b.map fun p => ⟨p.key, mk []⟩)).map Pr.key ↔ _
  rw [List.mem_map, has_val, this, ← has_val (l := b), ex_map]

/-! ### The contract -/
theorem getE_is {l : List Pr} (hs : Srt l) {k : ByteArray} (hk : chk k [] = 0) : ∃ s e, getE l k = .tuple #[.string s, .int .i64 e] ∧ s = (val l k).getD (mk []) ∧ decide (e = 0) = (val l k).isSome := by
  unfold getE
  rw [if_pos hk, getP_val hs]
  cases h : val l k with
  | some v => exact ⟨v, 0, rfl, rfl, rfl⟩
  | none => exact ⟨mk [], 9, rfl, rfl, rfl⟩
theorem chk_key {k v : ByteArray} (h : chk k [v] = 0) : chk k [] = 0 := by
  have := (chk_len k v).1 h
  exact chk_ok (by omega) (by omega) (by simp)

theorem l_betw0 (l : List Pr) (v : Value) (Hz : AHeap) (b : Nat) (w0 w1 : Value) (hl : l.length ≤ 20000) : ∀ (x : List Pr) (i : Nat) (H : AHeap) (acc : List Pr), l.drop i = x → MdlN Hz H b acc → Rd EPr H v l → (∀ c, blockOf v = some c → c < H.n ∧ ¬ MB H b c) → ∃ H', MdlN Hz H' b (fillF acc (x.map fun p => ⟨p.key, mk []⟩)) ∧
    ∀ K : K, l_law_between_0 w0 w1 (.pointer (some ⟨b, 0, none⟩)) v (.int .i64 (i : Int)) H (blkK [0, 1, 5] 0 K) = K .normal [(0, w0), (1, w1), (5, .pointer (some ⟨b, 0, none⟩))] H'
  | [], i, H, acc, hx, t, hr, hoff => by
    have h : l.length ≤ i := List.drop_eq_nil_iff.1 hx
    have hlt : ¬ (i : Int) < (l.length : Int) := by omega
    have hlen := hr.lenS
    refine ⟨H, t, fun K => ?_⟩
    rw [r_law_between_0]
    simp (disch := first | with_reducible rfl | assumption | omega | rfl | (simp only [go_sem]; first | done | omega)) only [go_sem, ↓reduceIte, reduceCtorEq, Nat.reduceEqDiff, Nat.reduceAdd, Nat.reduceSub, Nat.reduceMul, Nat.reduceDiv, Nat.reduceMod, Nat.reduceLeDiff, Nat.reduceLT, Nat.reduceBEq, Int.reduceEq, Int.reduceBEq, Int.reduceBNe, Int.reduceLT, Int.reduceLE, Int.reduceAdd, Int.reduceSub, Int.reduceNeg, Int.reduceToNat, Int.reducePow, Nat.reducePow, Int.reduceMul, Int.reduceDiv, ↓s_law_between_b0, hlen, hlt]
  | a :: x, i, H, acc, hx, t, hr, hoff => by
    obtain ⟨h, hxa, hx'⟩ := drop_cons hx
    have hlt : (i : Int) < (l.length : Int) := by omega
    have hlen := hr.lenS
    obtain ⟨b1, o1, hix, _, hc1, _⟩ := hr.ix (q := .i64) h
    rw [hxa] at hc1
    have hix : ixS 2 v (.int .i64 i) = some (.pointer (some ⟨b1, o1, none⟩)) := hix
    have hc2 : cellB (H.f b1) o1 = some (.string a.key) := cutB_cell hc1 (i := 0) (by decide)
    obtain ⟨H1, hput, m1, u1⟩ := q_putM b acc ⟨a.key, mk []⟩ H t.ok t.m t.fine.srt t.fine.len
    have n1 : H.n ≤ H1.n := u1.fr.n
    obtain ⟨H', t', ih⟩ := l_betw0 l v Hz b w0 w1 hl x (i + 1) H1 _ hx' (t.step m1 u1 (t.fine.put _)) (hr.keep u1.fr fun c hc h => (hoff c hc).2 h) (fun c hc => by
      have h1 := hoff c hc
      refine ⟨by omega, fun h => ?_⟩
      rcases u1.mb c h with h | h
      · exact h1.2 h
      · omega)
    refine ⟨H', t', fun K => ?_⟩
    have ih := ih K
    rw [Int.natCast_add] at ih
    generalize (putE acc ⟨a.key, mk []⟩).1 = e at hput
    have hput : CC F.model_Model_Put [.pointer (some ⟨b, 0, none⟩), .string a.key, .string (mk [])] H = some (.int .i64 e, H1) := hput
    rw [r_law_between_0]
    simp (disch := first | with_reducible rfl | assumption | omega | rfl | (simp only [go_sem]; first | done | omega)) only [go_sem, ↓reduceIte, reduceCtorEq, Nat.reduceEqDiff, Nat.reduceAdd, Nat.reduceSub, Nat.reduceMul, Nat.reduceDiv, Nat.reduceMod, Nat.reduceLeDiff, Nat.reduceLT, Nat.reduceBEq, Int.reduceEq, Int.reduceBEq, Int.reduceBNe, Int.reduceLT, Int.reduceLE, Int.reduceAdd, Int.reduceSub, Int.reduceNeg, Int.reduceToNat, Int.reducePow, Nat.reducePow, Int.reduceMul, Int.reduceDiv, ↓s_law_between_b0, hlen, hlt, hix, hc2, enterK_eq hput]
    exact ih

theorem l_betw1 (l a b : List Pr) (v : Value) (ba bb : Nat) (Hz : AHeap) (hr0 : Rd EPr Hz v l) (hl : l.length ≤ 20000) (hk : ∀ p ∈ l, chk p.key [] = 0) (ra : Mdl Hz ba a) (rb : Mdl Hz bb b) (fa : Fine a) (fb : Fine b) :
    ∀ (x : List Pr) (i : Nat) (H : AHeap) (o : Value) (acc : List Cg), l.drop i = x → Still Hz H → Own ECg H T.api_Change o acc → (∀ d, blockOf o = some d → Hz.n ≤ d) → i ≤ l.length → acc.length ≤ i → ∃ o' H', Still Hz H' ∧ Own ECg H' T.api_Change o' (acc ++ (x.map Pr.key).flatMap (mkcL a b)) ∧ (∀ d, blockOf o' = some d → Hz.n ≤ d) ∧ ∀ K : K,
      l_law_between_1 (.pointer (some ⟨ba, 0, none⟩)) (.pointer (some ⟨bb, 0, none⟩)) v o (.int .i64 (i : Int)) H (blkK [8] 2 K) = K .normal [(8, o')] H'
  | [], i, H, o, acc, hx, hs, ho, hob, hi, hacc => by
    have h : l.length ≤ i := List.drop_eq_nil_iff.1 hx
    have hlt : ¬ (i : Int) < (l.length : Int) := by omega
    have hlen := hr0.lenS
    refine ⟨o, H, hs, by simpa using ho, hob, fun K => ?_⟩
    rw [r_law_between_1]
    simp (disch := first | with_reducible rfl | assumption | omega | rfl | (simp only [go_sem]; first | done | omega)) only [go_sem, ↓reduceIte, reduceCtorEq, Nat.reduceEqDiff, Nat.reduceAdd, Nat.reduceSub, Nat.reduceMul, Nat.reduceDiv, Nat.reduceMod, Nat.reduceLeDiff, Nat.reduceLT, Nat.reduceBEq, Int.reduceEq, Int.reduceBEq, Int.reduceBNe, Int.reduceLT, Int.reduceLE, Int.reduceAdd, Int.reduceSub, Int.reduceNeg, Int.reduceToNat, Int.reducePow, Nat.reducePow, Int.reduceMul, Int.reduceDiv, ↓s_law_between_b1, hlen, hlt]
  | p :: x, i, H, o, acc, hx, hs, ho, hob, hi, hacc => by
    obtain ⟨h, hxa, hx'⟩ := drop_cons hx
    have hlt : (i : Int) < (l.length : Int) := by omega
    have hlen := hr0.lenS
    obtain ⟨b1, o1, hix, hb1, hc1, _⟩ := (hr0.still hs).ix (q := .i64) h
    rw [hxa] at hc1
    have hix : ixS 2 v (.int .i64 i) = some (.pointer (some ⟨b1, o1, none⟩)) := hix
    have hc2 : cellB (H.f b1) o1 = some (.string p.key) := cutB_cell hc1 (i := 0) (by decide)
    have hkp := hk p (by rw [← hxa]; exact List.getElem_mem h)
    have hga := q_getM ba a p.key H (ra.still hs) fa.srt fa.len
    have hgb := q_getM bb b p.key H (rb.still hs) fb.srt fb.len
    obtain ⟨s1, e1, g1, g2, g3⟩ := getE_is fa.srt hkp
    obtain ⟨s2, e2, g4, g5, g6⟩ := getE_is fb.srt hkp
    rw [g1] at hga
    rw [g4] at hgb
    generalize hc : mkc a b p.key = c
    have hck : c = ⟨p.key, decide (e1 = 0), decide (e2 = 0), s1, s2⟩ := by rw [← hc, g3, g6, g2, g5]; rfl
    generalize hH1 : (H.push (.cells [.string (mk []), .bool false, .bool false, .string (mk []), .string (mk [])] T.api_Change true)).set H.n (.cells [.string p.key, .bool (decide (e1 = 0)), .bool (decide (e2 = 0)), .string s1, .string s2] T.api_Change true) = H1
    have st1 : Still H H1 := by rw [← hH1]; exact Fr.set ((Fr.refl H).push _) _ _ (fun h => by omega)
    have n1 : H1.n = H.n + 1 := by rw [← hH1]; rfl
    have f1 : H1.f H.n = .cells [.string p.key, .bool (decide (e1 = 0)), .bool (decide (e2 = 0)), .string s1, .string s2] T.api_Change true := by rw [← hH1]; exact set_f_eq
    have hnone := q_none c H1
    rw [show cgV c = .agg #[.string p.key, .bool (decide (e1 = 0)), .bool (decide (e2 = 0)), .string s1, .string s2] by rw [hck]] at hnone
    have n0 : Hz.n ≤ H.n := hs.n
    have hs1 : Still Hz H1 := hs.still.then st1 fun _ _ h => h
    cases hn : noneC c with
    | true =>
      rw [hn] at hnone
      obtain ⟨o'', H', q1, q2, q3, ih⟩ := l_betw1 l a b v ba bb Hz hr0 hl hk ra rb fa fb x (i + 1) H1 o acc hx' hs1 (ho.still st1) hob h (by omega)
      refine ⟨o'', H', q1, by rw [List.map_cons, List.flatMap_cons, show mkcL a b p.key = [] by unfold mkcL; rw [hc, hn, if_pos rfl]]; exact q2, q3, fun K => ?_⟩
      have ih := ih K
      rw [Int.natCast_add] at ih
      rw [r_law_between_1]
      simp (disch := first | with_reducible rfl | assumption | omega | rfl | (simp only [go_sem]; first | done | omega)) only [go_sem, ↓reduceIte, reduceCtorEq, Nat.reduceEqDiff, Nat.reduceAdd, Nat.reduceSub, Nat.reduceMul, Nat.reduceDiv, Nat.reduceMod, Nat.reduceLeDiff, Nat.reduceLT, Nat.reduceBEq, Int.reduceEq, Int.reduceBEq, Int.reduceBNe, Int.reduceLT, Int.reduceLE, Int.reduceAdd, Int.reduceSub, Int.reduceNeg, Int.reduceToNat, Int.reducePow, Nat.reducePow, Int.reduceMul, Int.reduceDiv, ↓s_law_between_b1, hlen, hlt, hix, hc2, enterK_eq hga, enterK_eq hgb, hH1, f1, enterK_eq hnone]
      exact ih
    | false =>
      rw [hn] at hnone
      generalize hH2 : H1.push (.cells [.string p.key, .bool (decide (e1 = 0)), .bool (decide (e2 = 0)), .string s1, .string s2] T.api_Change true) = H2
      have st2 : Still H1 H2 := by rw [← hH2]; exact (Fr.refl H1).push _
      have n2 : H2.n = H1.n + 1 := by rw [← hH2]; rfl
      have hlit := litC c H1
      rw [hck] at hlit
      rw [show H1.push (.cells [.string p.key, .bool (decide (e1 = 0)), .bool (decide (e2 = 0)), .string s1, .string s2] T.api_Change true) = H2 from hH2, ← hck] at hlit
      obtain ⟨o', H3, happ, ho2, fr2, hb2⟩ := ((ho.still st1).still st2).appE (m := [c]) (sz := 5) (bytes := 56) rfl (by simp; omega) (by simp; omega) (hlit.src (sz := 5) rfl)
      have hob' : ∀ d, blockOf o' = some d → Hz.n ≤ d := fun d hd => by
        rcases hb2 with hb | hb
        · rw [hb] at hd; exact hob d hd
        · rw [hb] at hd; cases hd; omega
      have s3 : Still Hz H3 := (hs1.still.then st2 fun _ _ h => h).still.then fr2 fun d hd h => by have := hob d h; omega
      obtain ⟨o'', H', q1, q2, q3, ih⟩ := l_betw1 l a b v ba bb Hz hr0 hl hk ra rb fa fb x (i + 1) H3 o' (acc ++ [c]) hx' s3 ho2 hob' h (by simp; omega)
      refine ⟨o'', H', q1, by rw [List.map_cons, List.flatMap_cons, show mkcL a b p.key = [c] by unfold mkcL; rw [hc, hn, if_neg (by simp)]]; simpa using q2, q3, fun K => ?_⟩
      have ih := ih K
      rw [Int.natCast_add] at ih
      rw [r_law_between_1]
      simp (disch := first | with_reducible rfl | assumption | omega | rfl | (simp only [go_sem]; first | done | omega)) only [go_sem, ↓reduceIte, reduceCtorEq, Nat.reduceEqDiff, Nat.reduceAdd, Nat.reduceSub, Nat.reduceMul, Nat.reduceDiv, Nat.reduceMod, Nat.reduceLeDiff, Nat.reduceLT, Nat.reduceBEq, Int.reduceEq, Int.reduceBEq, Int.reduceBNe, Int.reduceLT, Int.reduceLE, Int.reduceAdd, Int.reduceSub, Int.reduceNeg, Int.reduceToNat, Int.reducePow, Nat.reducePow, Int.reduceMul, Int.reduceDiv, ↓s_law_between_b1, hlen, hlt, hix, hc2, enterK_eq hga, enterK_eq hgb, hH1, f1, enterK_eq hnone, hH2, happ]
      exact ih

theorem q_between (ba bb : Nat) (a b : List Pr) (H : AHeap) (ok : Ok H) (ra : Mdl H ba a) (rb : Mdl H bb b) (fa : Fine a) (fb : Fine b) :
    ∃ v H', CC F.law_between [.pointer (some ⟨ba, 0, none⟩), .pointer (some ⟨bb, 0, none⟩)] H = some (v, H') ∧ Own ECg H' T.api_Change v (betw a b) ∧ Still H H' ∧ New H v := by
  obtain ⟨bc, H1, hcp, m1, s1, hbc, hmb⟩ := q_MCopy ba a H ra (by have := fa.len; omega)
  obtain ⟨v2, H2, hp2, o2, s2, hn2⟩ := q_Pairs bb b H1 (rb.still s1) (by have := fb.len; omega)
  have s12 : Still H H2 := s1.still.then s2 fun _ _ h => h
  have ok2 := ok.fr s12
  have n1 : H.n ≤ H1.n := s1.n
  have t2 : MdlN H H2 bc a := ⟨ok2, s12, m1.still s2, fun c h => hmb c (MBT_still m1 s2 h), fa⟩
  obtain ⟨H3, t3, hl0⟩ := l_betw0 b v2 H bc (.pointer (some ⟨ba, 0, none⟩)) (.pointer (some ⟨bb, 0, none⟩)) (by have := fb.len; omega) b 0 H2 a rfl t2 o2.rd (fun c hc => ⟨o2.blk hc, fun h => by
    have h1 := hn2 c hc
    have h2 := m1.blk (MBT_still m1 s2 h)
    omega⟩)
  have t3 : MdlN H H3 bc (keysC a b) := t3
  have hlk : (keysC a b).length ≤ 20000 := t3.fine.len
  obtain ⟨v4, H4, hp4, o4, s4, hn4⟩ := q_Pairs bc (keysC a b) H3 t3.m (by omega)
  have s14 : Still H H4 := t3.base.still.then s4 fun _ _ h => h
  have n4 : H.n ≤ H4.n := s14.n
  obtain ⟨o, H5, s5, o5, hob, hl1⟩ := l_betw1 (keysC a b) a b v4 ba bb H4 o4.rd hlk (fun p hp => chk_key (t3.fine.ok p hp)) (ra.still s14) (rb.still s14) fa fb (keysC a b) 0 H4 (.slice none 0 0) [] rfl (Fr.refl H4) (.inl ⟨rfl, rfl⟩) (fun c h => by cases h) (by omega) (by simp)
  rw [List.nil_append] at o5
  have s15 : Still H H5 := s14.still.then s5 fun _ _ h => h
  have o5 : Own ECg H5 T.api_Change o (betw a b) := o5
  obtain ⟨H6, hx, o6, s6⟩ := any_tidied (P := fun G => Own ECg G T.api_Change o (betw a b)) (X := o) s15 o5 fun hg => row_one o5 hg
  refine ⟨o, H6, (d_law_between _ _ H (r := (o, H5)) ?_).trans (congrArg some hx), o6, s6, fun d hd => by have := hob d hd; omega⟩
  simp (disch := first | with_reducible rfl | assumption | omega | rfl | (simp only [go_sem]; first | done | omega)) only [go_sem, ↓reduceIte, reduceCtorEq, Nat.reduceEqDiff, Nat.reduceAdd, Nat.reduceSub, Nat.reduceMul, Nat.reduceDiv, Nat.reduceMod, Nat.reduceLeDiff, Nat.reduceLT, Nat.reduceBEq, Int.reduceEq, Int.reduceBEq, Int.reduceBNe, Int.reduceLT, Int.reduceLE, Int.reduceAdd, Int.reduceSub, Int.reduceNeg, Int.reduceToNat, Int.reducePow, Nat.reducePow, Int.reduceMul, Int.reduceDiv, ↓s_law_between, enterK_eq hcp, enterK_eq hp2]
  refine (hl0 _).trans ?_
  simp (disch := first | with_reducible rfl | assumption | omega | rfl | (simp only [go_sem]; first | done | omega)) only [go_sem, ↓reduceIte, reduceCtorEq, Nat.reduceEqDiff, Nat.reduceAdd, Nat.reduceSub, Nat.reduceMul, Nat.reduceDiv, Nat.reduceMod, Nat.reduceLeDiff, Nat.reduceLT, Nat.reduceBEq, Int.reduceEq, Int.reduceBEq, Int.reduceBNe, Int.reduceLT, Int.reduceLE, Int.reduceAdd, Int.reduceSub, Int.reduceNeg, Int.reduceToNat, Int.reducePow, Nat.reducePow, Int.reduceMul, Int.reduceDiv, enterK_eq hp4]
  refine (hl1 _).trans ?_
  simp (disch := first | with_reducible rfl | assumption | omega | rfl | (simp only [go_sem]; first | done | omega)) only [go_sem, ↓reduceIte, reduceCtorEq, Nat.reduceEqDiff, Nat.reduceAdd, Nat.reduceSub, Nat.reduceMul, Nat.reduceDiv, Nat.reduceMod, Nat.reduceLeDiff, Nat.reduceLT, Nat.reduceBEq, Int.reduceEq, Int.reduceBEq, Int.reduceBNe, Int.reduceLT, Int.reduceLE, Int.reduceAdd, Int.reduceSub, Int.reduceNeg, Int.reduceToNat, Int.reducePow, Nat.reducePow, Int.reduceMul, Int.reduceDiv]

end Go.Proofs.Ytlbieadnfgfhlaa

/-
  The seat's functions as terms over the engine's combinators (a program of ours printed it).
  Conditions: none. By an AI agent.
-/
set_option linter.unusedVariables false
namespace Go.Proofs.Ytlbieadnfgfhlaa
open Go Eng

/-! ticketline.ticketlinelaw49.DeltaOf -/

noncomputable def s_law_DeltaOf (mg : GT) (mc : CT) (ms : ST) (P : Program) (C : CallF) (a0 : Value) (a1 : Value) (H : AHeap) (K0 : K) : Res :=
enterK C F.law_pairs [a0, (.int .i64 20)] H fun t9 h1 =>
bareK (xun P .not t9) h1 fun t10 h2 =>
mg t10 false (fun o1 => o1 a1 h2) h2 fun t12 h3 =>
mg t10 false (fun o2 => enterK C F.law_pairs [t12, (.int .i64 20)] h3 o2) h3 fun t13 h4 =>
mg t10 false (fun o3 => bareK (xun P .not t13) h4 o3) h4 fun t14 h5 =>
pickK t10 (.bool true) t14 fun t15 =>
mc t15 (fun k4 => enterK C F.law_known [] h5 fun t16 h6 =>
k4 .ret [(4, t16)] h6) (fun k4 =>
k4 .normal [(0, a0), (1, a1)] h5) (seqK (fun tT h7 =>
enterK C F.law_filled [(get tT 0)] h7 fun t18 h8 =>
enterK C F.law_filled [(get tT 1)] h8 fun t20 h9 =>
enterK C F.law_between [t18, t20] h9 fun t23 h10 =>
enterK C F.law_ofs [t18, t20, t23, (.int .i64 0)] h10 fun t27 h11 =>
mg t27 true (fun o5 => o5 t23 h11) h11 fun t29 h12 =>
mg t27 true (fun o6 => enterK C F.delta_Valid [t29] h12 o6) h12 fun t30 h13 =>
pickK t27 t30 (.bool false) fun t31 =>
mg t31 true (fun o7 => o7 t20 h13) h13 fun t33 h14 =>
mg t31 true (fun o8 => enterK C F.law_ofs [(.pointer none), t33, (.slice none 0 0), (.int .i64 1)] h14 o8) h14 fun t34 h15 =>
pickK t31 t34 (.bool false) fun t35 =>
mg t35 true (fun o9 => o9 t18 h15) h15 fun t37 h16 =>
mg t35 true (fun o10 => enterK C F.law_ofs [t37, (.pointer none), (.slice none 0 0), (.int .i64 1)] h16 o10) h16 fun t38 h17 =>
pickK t35 t38 (.bool false) fun t39 =>
mg t39 true (fun o11 => o11 t18 h17) h17 fun t41 h18 =>
mg t39 true (fun o12 => o12 (get tT 0) h18) h18 fun t42 h19 =>
mg t39 true (fun o13 => enterK C F.law_filled [t42] h19 o13) h19 fun t43 h20 =>
mg t39 true (fun o14 => enterK C F.model_Equal [t41, t43] h20 o14) h20 fun t44 h21 =>
pickK t39 t44 (.bool false) fun t45 =>
mg t45 true (fun o15 => o15 t20 h21) h21 fun t47 h22 =>
mg t45 true (fun o16 => o16 (get tT 1) h22) h22 fun t48 h23 =>
mg t45 true (fun o17 => enterK C F.law_filled [t48] h23 o17) h23 fun t49 h24 =>
mg t45 true (fun o18 => enterK C F.model_Equal [t47, t49] h24 o18) h24 fun t50 h25 =>
pickK t45 t50 (.bool false) fun t51 =>
mg t51 true (fun o19 => enterK C F.law_known [] h25 o19) h25 fun t53 h26 =>
pickK t51 t53 (.bool false) fun t54 =>
K0 .ret [(4, t54)] h26) K0)

theorem s_law_DeltaOf_eq (M : CombL) (C : CallF) (LP : LoopH) (a0 : Value) (a1 : Value) (H : AHeap) : dBodyL M Try.prog hints C LP F.law_DeltaOf [a0, a1] H = s_law_DeltaOf M.b.g M.c M.s Try.prog C a0 a1 H (endK Try.prog [.tmp 4]) := by kernel_rfl

end Go.Proofs.Ytlbieadnfgfhlaa

/-
  The equations of the seat's functions over calls in the limit (a program of ours printed it).
  Conditions: none. By an AI agent.
-/
set_option linter.unusedVariables false
namespace Go.Proofs.Ytlbieadnfgfhlaa
open Go Eng



theorem d_law_DeltaOf (a0 : Value) (a1 : Value) (H : AHeap) {r : Value × AHeap} (h : s_law_DeltaOf guardK condL shareL Try.prog CC a0 a1 H (endK Try.prog [.tmp 4]) = some r) : CC F.law_DeltaOf [a0, a1] H = some (tidy H r) := D_body (by kernel_rfl) ((s_law_DeltaOf_eq stdL CC limLP a0 a1 H).trans (Eq.trans (show s_law_DeltaOf stdL.b.g stdL.c stdL.s Try.prog CC a0 a1 H (endK Try.prog [.tmp 4]) = s_law_DeltaOf guardK condL shareL Try.prog CC a0 a1 H (endK Try.prog [.tmp 4]) by kernel_rfl) h))

end Go.Proofs.Ytlbieadnfgfhlaa

/-
  Chapter 49: the law DeltaOf runs to true.
  Conditions: none. By an AI agent.
-/
set_option maxRecDepth 10000
set_option linter.unusedSimpArgs false
set_option linter.unusedVariables false
namespace Go.Proofs.Ytlbieadnfgfhlaa
open Go Eng

/-! ### What Of gives is a delta -/
def baseC (c : Cg) : Bool := decide (chk c.key [c.before] = 0) && (decide (chk c.key [c.after] = 0) && ((c.was || decide (bl c.before = [])) && ((c.is || decide (bl c.after = [])) && !noneC c)))
theorem okC_base (o : Option Cg) (c : Cg) : okC o c = (baseC c && o.elim true fun p => decide (cmpS p.key c.key < 0)) := by
  unfold okC baseC
  simp only [Bool.and_assoc]
theorem okL_of : ∀ {l : List Cg} (o : Option Cg), (∀ c ∈ l, baseC c = true) → SrtC l → (∀ p, o = some p → ∀ c ∈ l, cmpS p.key c.key < 0) → okL o l = true
  | [], _, _, _, _ => rfl
  | c :: l, o, h1, h2, h3 => by
    obtain ⟨hc, hl⟩ := List.pairwise_cons.1 h2
    rw [okL, okC_base, h1 c (by simp), Bool.true_and, okL_of (some c) (fun d hd => h1 d (List.mem_cons_of_mem _ hd)) hl (fun p hp d hd => by cases hp; exact hc d hd), Bool.and_true]
    cases o with
    | none => rfl
    | some p => exact decide_eq_true (h3 p rfl c (by simp))
theorem okL_all : ∀ {l : List Cg} {o : Option Cg}, okL o l = true → (∀ c ∈ l, baseC c = true) ∧ SrtC l ∧ ∀ p, o = some p → ∀ c ∈ l, cmpS p.key c.key < 0
  | [], o, _ => ⟨(fun c hc => by cases hc), List.Pairwise.nil, (fun p _ c hc => by cases hc)⟩
  | c :: l, o, h => by
    rw [okL, Bool.and_eq_true, okC_base, Bool.and_eq_true] at h
    obtain ⟨⟨h1, h2⟩, h3⟩ := h
    obtain ⟨i1, i2, i3⟩ := okL_all h3
    refine ⟨fun d hd => ?_, List.pairwise_cons.2 ⟨i3 c rfl, i2⟩, fun p hp d hd => ?_⟩
    · rcases List.mem_cons.1 hd with rfl | hd
      · exact h1
      · exact i1 d hd
    · subst hp
      have hpc : cmpS p.key c.key < 0 := of_decide_eq_true h2
      rcases List.mem_cons.1 hd with rfl | hd
      · exact hpc
      · exact cmpS_trans hpc (i3 c rfl d hd)
theorem val_ok {l : List Pr} (h : AllOk l) {k v : ByteArray} (hv : val l k = some v) : chk k [v] = 0 := by
  unfold val at hv
  cases hf : l.find? fun a => decide (a.key = k) with
  | none => rw [hf] at hv; cases hv
  | some a =>
    rw [hf] at hv
    cases hv
    have hk : a.key = k := by simpa using List.find?_some hf
    rw [← hk]
    exact h a (List.mem_of_find?_eq_some hf)
theorem chk_nil {k v : ByteArray} (h : chk k [v] = 0) : chk k [mk []] = 0 := by
  have := (chk_len k v).1 h
  refine (chk_len k (mk [])).2 ⟨this.1, this.2.1, ?_⟩
  rw [bl_mk]; simp
theorem base_mkc {a b : List Pr} (ha : AllOk a) (hb : AllOk b) {k : ByteArray} (h : (val a k).isSome = true ∨ (val b k).isSome = true) (hn : noneC (mkc a b k) = false) : baseC (mkc a b k) = true := by
  unfold baseC
  rw [hn]
  unfold mkc
  cases h1 : val a k with
  | some v =>
    have c1 := val_ok ha h1
    cases h2 : val b k with
    | some w => have c2 := val_ok hb h2; simp [c1, c2]
    | none => simp [c1, chk_nil c1, bl_mk]
  | none =>
    cases h2 : val b k with
    | some w => have c2 := val_ok hb h2; simp [c2, chk_nil c2, bl_mk]
    | none => rw [h1, h2] at h; simp at h
theorem mem_mkcL {a b : List Pr} {k : ByteArray} {c : Cg} (h : c ∈ mkcL a b k) : c = mkc a b k ∧ noneC (mkc a b k) = false := by
  unfold mkcL at h
  split at h
  · cases h
  · rename_i hn
    exact ⟨List.mem_singleton.1 h, by simpa using hn⟩
theorem srt_keys {a b : List Pr} {ks : List ByteArray} (h : SrtK ks) : SrtC (ks.flatMap (mkcL a b)) := by
  refine List.pairwise_flatMap.2 ⟨fun k _ => ?_, h.imp fun hk x hx y hy => ?_⟩
  · unfold mkcL
    split <;> simp
  · rw [(mem_mkcL hx).1, (mem_mkcL hy).1]; exact hk
theorem delta_ok {a b : List Pr} (ha : Fine a) (hb : Fine b) : okL none (deltaOf a b) = true := by
  obtain ⟨h1, h2, h3⟩ := deltaOf_keys ha.srt hb.srt
  rw [h1]
  refine okL_of none (fun c hc => ?_) (srt_keys h2) fun p hp => by cases hp
  obtain ⟨k, hk, hc⟩ := List.mem_flatMap.1 hc
  obtain ⟨rfl, hn⟩ := mem_mkcL hc
  exact base_mkc ha.ok hb.ok ((h3 k).1 hk) hn

/-! ### The law -/
theorem q_Of_nil1 (w : Value) (H : AHeap) : CC F.delta_Of [.pointer none, w] H = some (.tuple #[.slice none 0 0, .int .i64 1], H) := by
  apply pure_of _ (d_delta_Of _ _ H) rfl
  rotate_left 2
  · simp (disch := first | with_reducible rfl | assumption | omega | rfl | (simp only [go_sem]; first | done | omega)) only [go_sem, ↓reduceIte, reduceCtorEq, Nat.reduceEqDiff, Nat.reduceAdd, Nat.reduceSub, Nat.reduceMul, Nat.reduceDiv, Nat.reduceMod, Nat.reduceLeDiff, Nat.reduceLT, Nat.reduceBEq, Int.reduceEq, Int.reduceBEq, Int.reduceBNe, Int.reduceLT, Int.reduceLE, Int.reduceAdd, Int.reduceSub, Int.reduceNeg, Int.reduceToNat, Int.reducePow, Nat.reducePow, Int.reduceMul, Int.reduceDiv, ↓s_delta_Of]
    rfl
  · (repeat (first | exact Fr.refl _ | refine Fr.push ?_ _ | refine Fr.set ?_ _ _ (by intro h; first | omega | (simp only [go_sem] at h; omega))))
theorem q_Of_nil2 (b : Nat) (H : AHeap) : CC F.delta_Of [.pointer (some ⟨b, 0, none⟩), .pointer none] H = some (.tuple #[.slice none 0 0, .int .i64 1], H) := by
  apply pure_of _ (d_delta_Of _ _ H) rfl
  rotate_left 2
  · simp (disch := first | with_reducible rfl | assumption | omega | rfl | (simp only [go_sem]; first | done | omega)) only [go_sem, ↓reduceIte, reduceCtorEq, Nat.reduceEqDiff, Nat.reduceAdd, Nat.reduceSub, Nat.reduceMul, Nat.reduceDiv, Nat.reduceMod, Nat.reduceLeDiff, Nat.reduceLT, Nat.reduceBEq, Int.reduceEq, Int.reduceBEq, Int.reduceBNe, Int.reduceLT, Int.reduceLE, Int.reduceAdd, Int.reduceSub, Int.reduceNeg, Int.reduceToNat, Int.reducePow, Nat.reducePow, Int.reduceMul, Int.reduceDiv, ↓s_delta_Of, mp_some]
    rfl
  · (repeat (first | exact Fr.refl _ | refine Fr.push ?_ _ | refine Fr.set ?_ _ _ (by intro h; first | omega | (simp only [go_sem] at h; omega))))
theorem q_ofs_nil (v w : Value) (H : AHeap) (h : CC F.delta_Of [v, w] H = some (.tuple #[.slice none 0 0, .int .i64 1], H)) : CC F.law_ofs [v, w, .slice none 0 0, .int .i64 1] H = some (.bool true, H) := by
  have hg := q_gives [] (.slice none 0 0) (.slice none 0 0) 1 H (.inl ⟨rfl, rfl⟩) (.inl ⟨rfl, rfl⟩) (by simp)
  apply pure_of _ (d_law_ofs _ _ _ _ H) rfl
  rotate_left 2
  · simp (disch := first | with_reducible rfl | assumption | omega | rfl | (simp only [go_sem]; first | done | omega)) only [go_sem, ↓reduceIte, reduceCtorEq, Nat.reduceEqDiff, Nat.reduceAdd, Nat.reduceSub, Nat.reduceMul, Nat.reduceDiv, Nat.reduceMod, Nat.reduceLeDiff, Nat.reduceLT, Nat.reduceBEq, Int.reduceEq, Int.reduceBEq, Int.reduceBNe, Int.reduceLT, Int.reduceLE, Int.reduceAdd, Int.reduceSub, Int.reduceNeg, Int.reduceToNat, Int.reducePow, Nat.reducePow, Int.reduceMul, Int.reduceDiv, ↓s_law_ofs, enterK_eq h, enterK_eq hg]
    rfl
  · (repeat (first | exact Fr.refl _ | refine Fr.push ?_ _ | refine Fr.set ?_ _ _ (by intro h; first | omega | (simp only [go_sem] at h; omega))))
theorem q_ofs (ba bb : Nat) (a b : List Pr) (m : List Cg) (w : Value) (H : AHeap) (ok : Ok H) (ra : Mdl H ba a) (rb : Mdl H bb b) (hla : a.length ≤ 10000) (hlb : b.length ≤ 10000) (hw : Rd ECg H w m) (hm : m = deltaOf a b) :
    CC F.law_ofs [.pointer (some ⟨ba, 0, none⟩), .pointer (some ⟨bb, 0, none⟩), w, .int .i64 0] H = some (.bool true, H) := by
  obtain ⟨v, H1, hof, o1, s1, _, hl⟩ := q_Of ba bb a b H ok ra rb hla hlb
  rw [← hm] at o1 hl
  have hg := q_gives m v w 0 H1 o1.rd (hw.still s1) (by omega)
  apply pure_of _ (d_law_ofs _ _ _ _ H) rfl
  rotate_left 2
  · simp (disch := first | with_reducible rfl | assumption | omega | rfl | (simp only [go_sem]; first | done | omega)) only [go_sem, ↓reduceIte, reduceCtorEq, Nat.reduceEqDiff, Nat.reduceAdd, Nat.reduceSub, Nat.reduceMul, Nat.reduceDiv, Nat.reduceMod, Nat.reduceLeDiff, Nat.reduceLT, Nat.reduceBEq, Int.reduceEq, Int.reduceBEq, Int.reduceBNe, Int.reduceLT, Int.reduceLE, Int.reduceAdd, Int.reduceSub, Int.reduceNeg, Int.reduceToNat, Int.reducePow, Nat.reducePow, Int.reduceMul, Int.reduceDiv, ↓s_law_ofs, enterK_eq hof, enterK_eq hg]
    rfl
  · exact s1

theorem q_DeltaOf (a b : List Pr) (va vb : Value) (H : AHeap) (ok : Ok H) (ha : Rd EPr H va a) (hb : Rd EPr H vb b) : ∃ H', CC F.law_DeltaOf [va, vb] H = some (.bool true, H') := by
  obtain ⟨x, hpa, hxa⟩ := q_pairsn a va 20 H ha (by omega)
  obtain ⟨y, hpb, hyb⟩ := q_pairsn b vb 20 H hb (by omega)
  have hpa : CC F.law_pairs [va, .int .i64 20] H = some (.bool x, H) := hpa
  have hpb : CC F.law_pairs [vb, .int .i64 20] H = some (.bool y, H) := hpb
  cases x with
  | false =>
    refine any_of (H1 := ?_) (d_law_DeltaOf _ _ H ?_)
    rotate_left 1
    · simp (disch := first | with_reducible rfl | assumption | omega | rfl | (simp only [go_sem]; first | done | omega)) only [go_sem, ↓reduceIte, reduceCtorEq, Nat.reduceEqDiff, Nat.reduceAdd, Nat.reduceSub, Nat.reduceMul, Nat.reduceDiv, Nat.reduceMod, Nat.reduceLeDiff, Nat.reduceLT, Nat.reduceBEq, Int.reduceEq, Int.reduceBEq, Int.reduceBNe, Int.reduceLT, Int.reduceLE, Int.reduceAdd, Int.reduceSub, Int.reduceNeg, Int.reduceToNat, Int.reducePow, Nat.reducePow, Int.reduceMul, Int.reduceDiv, ↓s_law_DeltaOf, enterK_eq hpa]
      rfl
  | true =>
    cases y with
    | false =>
      refine any_of (H1 := ?_) (d_law_DeltaOf _ _ H ?_)
      rotate_left 1
      · simp (disch := first | with_reducible rfl | assumption | omega | rfl | (simp only [go_sem]; first | done | omega)) only [go_sem, ↓reduceIte, reduceCtorEq, Nat.reduceEqDiff, Nat.reduceAdd, Nat.reduceSub, Nat.reduceMul, Nat.reduceDiv, Nat.reduceMod, Nat.reduceLeDiff, Nat.reduceLT, Nat.reduceBEq, Int.reduceEq, Int.reduceBEq, Int.reduceBNe, Int.reduceLT, Int.reduceLE, Int.reduceAdd, Int.reduceSub, Int.reduceNeg, Int.reduceToNat, Int.reducePow, Nat.reducePow, Int.reduceMul, Int.reduceDiv, ↓s_law_DeltaOf, enterK_eq hpa, enterK_eq hpb]
        rfl
    | true =>
      have hla := hxa rfl
      have hlb := hyb rfl
      obtain ⟨H1, hf1, t1⟩ := q_filled a va H ok ha (by omega)
      have b1 := hb.still t1.base
      obtain ⟨H2, hf2, t2⟩ := q_filled b vb H1 t1.ok b1 (by omega)
      have t12 := t1.still t2.base
      have l1 := fill_len a []
      have l2 := fill_len b []
      simp only [List.length_nil, Nat.zero_add] at l1 l2
      generalize hA : fillF [] a = A at *
      generalize hB : fillF [] b = B at *
      obtain ⟨w, H3, hbt, o3, s3, _⟩ := q_between H.n H1.n A B H2 t2.ok t12.m t2.m t12.fine t2.fine
      rw [betw_eq t12.fine t2.fine (by omega)] at o3
      have m1 := t12.m.still s3
      have m2 := t2.m.still s3
      have ok3 := t2.ok.fr s3
      have hofs := q_ofs H.n H1.n A B _ w H3 ok3 m1 m2 (by omega) (by omega) o3.rd rfl
      obtain ⟨_, _, _, _, _, _, hdl⟩ := q_Of H.n H1.n A B H3 ok3 m1 m2 (by omega) (by omega)
      have hval := q_Valid _ w H3 ok3 o3.rd (by omega)
      have hv1 : validC (deltaOf A B) = true := by unfold validC; rw [decide_eq_true hdl, Bool.true_and]; exact delta_ok t12.fine t2.fine
      rw [hv1] at hval
      have hn1 := q_ofs_nil (.pointer none) (.pointer (some ⟨H1.n, 0, none⟩)) H3 (q_Of_nil1 _ H3)
      have hn2 := q_ofs_nil (.pointer (some ⟨H.n, 0, none⟩)) (.pointer none) H3 (q_Of_nil2 _ H3)
      have s03 : Still H H3 := (t1.base.still.then t2.base fun _ _ h => h).still.then s3 fun _ _ h => h
      obtain ⟨H4, hf3, t3⟩ := q_filled a va H3 ok3 (ha.still s03) (by omega)
      rw [hA] at t3
      have heq1 := q_Equal H.n H3.n A A H4 (m1.still t3.base) t3.m (by have := t3.fine.len; omega) (by have := t3.fine.len; omega)
      rw [decide_eq_true rfl] at heq1
      have s04 : Still H H4 := s03.still.then t3.base fun _ _ h => h
      obtain ⟨H5, hf4, t4⟩ := q_filled b vb H4 t3.ok (hb.still s04) (by omega)
      rw [hB] at t4
      have heq2 := q_Equal H1.n H4.n B B H5 ((m2.still t3.base).still t4.base) t4.m (by have := t4.fine.len; omega) (by have := t4.fine.len; omega)
      rw [decide_eq_true rfl] at heq2
      refine any_of (H1 := H5) (d_law_DeltaOf _ _ H ?_)
      simp (disch := first | with_reducible rfl | assumption | omega | rfl | (simp only [go_sem]; first | done | omega)) only [go_sem, ↓reduceIte, reduceCtorEq, Nat.reduceEqDiff, Nat.reduceAdd, Nat.reduceSub, Nat.reduceMul, Nat.reduceDiv, Nat.reduceMod, Nat.reduceLeDiff, Nat.reduceLT, Nat.reduceBEq, Int.reduceEq, Int.reduceBEq, Int.reduceBNe, Int.reduceLT, Int.reduceLE, Int.reduceAdd, Int.reduceSub, Int.reduceNeg, Int.reduceToNat, Int.reducePow, Nat.reducePow, Int.reduceMul, Int.reduceDiv, ↓s_law_DeltaOf, enterK_eq hpa, enterK_eq hpb, enterK_eq hf1, enterK_eq hf2, enterK_eq hbt, enterK_eq hofs, enterK_eq hval, enterK_eq hn1, enterK_eq hn2, enterK_eq hf3, enterK_eq heq1, enterK_eq hf4, enterK_eq heq2]

theorem run_DeltaOf (W : World) (va : Value) (a : List Pr) (ha : Rd EPr (absHeap W) va a) (_ : ∀ x, x ∈ a → True) (_ : a.length ≤ maxLen) (vb : Value) (b : List Pr) (hb : Rd EPr (absHeap W) vb b) (_ : ∀ x, x ∈ b → True) (_ : b.length ≤ maxLen) :
    ∃ k H', dCall Try.prog prims1 hints k F.law_DeltaOf [va, vb] (absHeap W) = some (.bool true, H') := by
  obtain ⟨H', h⟩ := q_DeltaOf a b va vb (absHeap W) (absHeap_ok W) ha hb
  obtain ⟨k, h⟩ := D_run h
  exact ⟨k, _, h⟩

end Go.Proofs.Ytlbieadnfgfhlaa
