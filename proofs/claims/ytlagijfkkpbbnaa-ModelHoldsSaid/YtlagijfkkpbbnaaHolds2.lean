/-
  Chapter 24: the law ModelHolds runs to true.
  Conditions: none. By an AI agent.
-/
import Derived.Test.YtlagijfkkpbbnaaHolds
import Derived.Test.YtlagijfkkpbbnaaEng28
import Derived.Test.YtlagijfkkpbbnaaDec
set_option maxRecDepth 10000
set_option linter.unusedSimpArgs false
set_option linter.unusedVariables false
namespace Go.Proofs.Ytlagijfkkpbbnaa
open Go Eng

theorem insertE_new {c : List Pr} {a : Pr} (hs : Srt c) (hl : c.length < 20000) (hc : chk a.key [a.value] = 0) (hn : ∀ b ∈ c, ¬ b.key = a.key) : insertE c a = (0, c.take (posP c a.key) ++ a :: c.drop (posP c a.key)) := by
  unfold insertE insertP
  have h : ¬ isP c a.key (posP c a.key) = true := fun h => by
    obtain ⟨hp, he⟩ := isP_eq h
    exact hn _ (List.getElem_mem hp) he
  rw [if_pos hc, if_neg h, if_neg (by omega)]

theorem mem_ins {c : List Pr} {a b : Pr} {p : Nat} : b ∈ c.take p ++ a :: c.drop p ↔ b = a ∨ b ∈ c := by
  rw [List.mem_append, List.mem_cons]
  have : b ∈ c ↔ b ∈ c.take p ∨ b ∈ c.drop p := by rw [← List.mem_append, List.take_append_drop]
  rw [this]
  constructor
  · rintro (h | h | h)
    · exact .inr (.inl h)
    · exact .inl h
    · exact .inr (.inr h)
  · rintro (h | h | h)
    · exact .inr (.inl h)
    · exact .inl h
    · exact .inr (.inr h)

@[go_sem] theorem int_rem {t : TypeId} {ox oy : Operand} {q : IntKind} {a b : Int} (h : b ≠ 0) : xbin Try.prog .rem t ox oy (.int q a) (.int q b) = some (.int q (a.tmod b)) := by
  refine xbin_gr ?_ rfl
  simp [eqGuard, binOp, Op.intDiv, Bind.bind, Sem.bind, Pure.pure, pv, h]

/-- The index that is taken. -/
theorem rot_lt {n t i : Nat} (hn : 0 < n) : (t + i) % n < n := Nat.mod_lt _ hn
theorem rot_ne {n t i j : Nat} (hi : i < n) (hj : j < n) (h : i ≠ j) : (t + i) % n ≠ (t + j) % n := by
  intro he
  rw [Nat.add_mod t i, Nat.add_mod t j, Nat.mod_eq_of_lt hi, Nat.mod_eq_of_lt hj] at he
  have ht : t % n < n := Nat.mod_lt _ (by omega)
  generalize t % n = r at he ht
  by_cases h1 : r + i < n
  · rw [Nat.mod_eq_of_lt h1] at he
    by_cases h2 : r + j < n
    · rw [Nat.mod_eq_of_lt h2] at he; omega
    · rw [Nat.mod_eq_sub_mod (by omega), Nat.mod_eq_of_lt (by omega)] at he; omega
  · rw [Nat.mod_eq_sub_mod (by omega), Nat.mod_eq_of_lt (by omega : r + i - n < n)] at he
    by_cases h2 : r + j < n
    · rw [Nat.mod_eq_of_lt h2] at he; omega
    · rw [Nat.mod_eq_sub_mod (by omega), Nat.mod_eq_of_lt (by omega)] at he; omega
theorem rot_all {n t k : Nat} (hk : k < n) : ∃ i, i < n ∧ (t + i) % n = k := by
  have ht : t % n < n := Nat.mod_lt _ (by omega)
  refine ⟨(k + n - t % n) % n, Nat.mod_lt _ (by omega), ?_⟩
  rw [Nat.add_mod, Nat.mod_mod]
  generalize t % n = r at *
  by_cases h : r ≤ k
  · rw [show k + n - r = (k - r) + n by omega, Nat.add_mod_right, Nat.mod_eq_of_lt (by omega : k - r < n), show r + (k - r) = k by omega, Nat.mod_eq_of_lt hk]
  · rw [Nat.mod_eq_of_lt (by omega : k + n - r < n), show r + (k + n - r) = k + n by omega, Nat.add_mod_right, Nat.mod_eq_of_lt hk]

theorem l_Holds1 (l : List Pr) (v : Value) (pm : Value) (bo : Nat) (t : Nat) (ht : t < 256) (Hz : AHeap) (hr0 : Rd EPr Hz v l) (hsl : Srt l) (hall : AllOk l) (hl : l.length ≤ 20000) : ∀ (d i : Nat) (H : AHeap) (c : List Pr), l.length - i = d → i ≤ l.length → Still Hz H → Ok H → Mdl H bo c → (∀ d, MB H bo d → Hz.n ≤ d) → Srt c → c.length = i → (∀ a, a ∈ c ↔ ∃ j, j < i ∧ l[(t + j) % l.length]? = some a) →
    ∃ H', Still Hz H' ∧ Ok H' ∧ Mdl H' bo l ∧ ∀ K : K,
    l_law_ModelHolds_1 (.int .u8 t) pm v (.pointer (some ⟨bo, 0, none⟩)) (.int .i64 i) H (blkK [7, 13, 16] 3 K) = K .normal [(7, pm), (13, v), (16, .pointer (some ⟨bo, 0, none⟩))] H'
  | 0, i, H, c, hd, hi, hb, ok, m, lom, hs, hc, hmem => by
    have hlt : ¬ (i : Int) < (l.length : Int) := by omega
    have hlen := hr0.lenS
    have e : c = l := by
      refine srt_ext hs hsl fun a => ?_
      rw [hmem]
      constructor
      · rintro ⟨j, _, h⟩; exact List.mem_of_getElem? h
      · intro h
        obtain ⟨k, hk, rfl⟩ := List.getElem_of_mem h
        obtain ⟨j, hj, he⟩ := rot_all (t := t) hk
        exact ⟨j, by omega, by rw [he, List.getElem?_eq_getElem hk]⟩
    subst e
    refine ⟨H, hb, ok, m, fun K => ?_⟩
    rw [r_law_ModelHolds_1]
    simp (disch := first | with_reducible rfl | assumption | omega | rfl | (simp only [go_sem]; first | done | omega)) only [go_sem, ↓reduceIte, reduceCtorEq, Nat.reduceEqDiff, Nat.reduceAdd, Nat.reduceSub, Nat.reduceMul, Nat.reduceDiv, Nat.reduceMod, Nat.reduceLeDiff, Nat.reduceLT, Nat.reduceBEq, Int.reduceEq, Int.reduceBEq, Int.reduceBNe, Int.reduceLT, Int.reduceLE, Int.reduceAdd, Int.reduceSub, Int.reduceNeg, Int.reduceToNat, Int.reducePow, Nat.reducePow, Int.reduceMul, Int.reduceDiv, ↓s_law_ModelHolds_b1, hlen, hlt]
  | d + 1, i, H, c, hd, hi, hb, ok, m, lom, hs, hc, hmem => by
    have h : i < l.length := by omega
    have hlt : (i : Int) < (l.length : Int) := by omega
    have hlen := hr0.lenS
    have hq : (t + i) % l.length < l.length := Nat.mod_lt _ (by omega)
    have hrem : Int.tmod ((i : Int) + (t : Int)) (l.length : Int) = (((t + i) % l.length : Nat) : Int) := by
      rw [← Int.natCast_add, Int.tmod_eq_emod_of_nonneg (by omega), ← Int.natCast_emod, Nat.add_comm i t]
    obtain ⟨b1, o1, hix, hb1, hc1, _⟩ := (hr0.still hb).ix (q := .i64) hq
    have hix : ixS 2 v (.int .i64 (((t + i) % l.length : Nat) : Int)) = some (.pointer (some ⟨b1, o1, none⟩)) := hix
    generalize ha : l[(t + i) % l.length] = a at hc1
    have hc1 : cutB (H.f b1) o1 2 = some [.string a.key, .string a.value] := hc1
    generalize hH1 : (H.push (.cells [.string (mk []), .string (mk [])] T.api_Pair true)).set H.n (.cells [.string a.key, .string a.value] T.api_Pair true) = H1
    have s1 : Still H H1 := by rw [← hH1]; exact Fr.set ((Fr.refl H).push _) _ _ (fun h => by omega)
    have n1 : H1.n = H.n + 1 := by rw [← hH1]; rfl
    have f1 : H1.f H.n = .cells [.string a.key, .string a.value] T.api_Pair true := by rw [← hH1]; exact set_f_eq
    have m1 := m.still s1
    have lom1 : ∀ d, MB H1 bo d → Hz.n ≤ d := fun d h => lom d (MBT_still m s1 h)
    have b1' : Still Hz H1 := hb.still.then s1 fun _ _ h => h
    have hal : chk a.key [a.value] = 0 := hall a (by rw [← ha]; exact List.getElem_mem hq)
    have hnew : ∀ b ∈ c, ¬ b.key = a.key := by
      intro b hb hk
      obtain ⟨j, hj, hbj⟩ := (hmem b).1 hb
      have hqj : (t + j) % l.length < l.length := Nat.mod_lt _ (by omega)
      rw [List.getElem?_eq_getElem hqj] at hbj
      have hbj := Option.some.inj hbj
      have e1 := mem_pos hsl hqj
      have e2 := mem_pos hsl hq
      rw [hbj, hk] at e1
      rw [ha] at e2
      exact rot_ne (t := t) (by omega : j < l.length) h (by omega) (by omega)
    have hins := insertE_new hs (by omega) hal hnew
    obtain ⟨H2, hcall, m2, u2⟩ := q_insM bo c a H1 (ok.fr s1) m1 hs (by omega)
    have hs2 := srt_insertE hs a
    rw [hins] at hcall m2 hs2
    simp only at hcall m2 hs2
    have hpl := posP_le c a.key
    have b2 : Still Hz H2 := b1'.still.then u2.fr fun d hd h => by have := lom1 d h; omega
    obtain ⟨H', p1, p2, p3, ih⟩ := l_Holds1 l v pm bo t ht Hz hr0 hsl hall hl d (i + 1) H2 _ (by omega) (by omega) b2 ((ok.fr s1).fr u2.fr) m2 (fun d h => by
        rcases u2.mb d h with h | h
        · exact lom1 d h
        · have := b1'.n; omega) hs2 (by simp; omega) (fun b => by
        rw [mem_ins, hmem]
        constructor
        · rintro (rfl | ⟨j, hj, hh⟩)
          · exact ⟨i, by omega, by rw [List.getElem?_eq_getElem hq, ha]⟩
          · exact ⟨j, by omega, hh⟩
        · rintro ⟨j, hj, hh⟩
          by_cases hji : j = i
          · subst hji
            rw [List.getElem?_eq_getElem hq, ha] at hh
            exact .inl (Option.some.inj hh).symm
          · exact .inr ⟨j, by omega, hh⟩)
    refine ⟨H', p1, p2, p3, fun K => ?_⟩
    have ih := ih K
    rw [Int.natCast_add] at ih
    have hne : (l.length : Int) ≠ 0 := by omega
    rw [r_law_ModelHolds_1]
    simp (disch := first | with_reducible rfl | assumption | omega | rfl | (simp only [go_sem]; first | done | omega)) only [go_sem, ↓reduceIte, reduceCtorEq, Nat.reduceEqDiff, Nat.reduceAdd, Nat.reduceSub, Nat.reduceMul, Nat.reduceDiv, Nat.reduceMod, Nat.reduceLeDiff, Nat.reduceLT, Nat.reduceBEq, Int.reduceEq, Int.reduceBEq, Int.reduceBNe, Int.reduceLT, Int.reduceLE, Int.reduceAdd, Int.reduceSub, Int.reduceNeg, Int.reduceToNat, Int.reducePow, Nat.reducePow, Int.reduceMul, Int.reduceDiv, ↓s_law_ModelHolds_b1, hlen, hlt, int_rem hne, hrem, hix, hc1, hH1, f1, enterK_eq hcall]
    exact ih

end Go.Proofs.Ytlagijfkkpbbnaa
