/-
  Chapter 02: orders of alarms, in plain lists.
  Conditions: none. By an AI agent.
-/
import Derived.Test.YtldgonjihhndgaaH
set_option maxRecDepth 10000
set_option linter.unusedSimpArgs false
set_option linter.unusedVariables false
namespace Go.Proofs.Ytldgonjihhndgaa
open Go Eng

def ltA (a b : Al) : Prop := a.tm < b.tm ∨ (a.tm = b.tm ∧ a.id < b.id)

theorem cmp_lt {a b : Al} : cmpA a b < 0 ↔ ltA a b := by
  unfold cmpA orI cmpI ltA
  constructor
  · intro h
    split at h <;> (try split at h) <;> (try split at h) <;> (try split at h) <;> omega
  · intro h
    split <;> (try split) <;> (try split) <;> (try split) <;> omega

/-- In order, and all IDs not negative. -/
def Srt (l : List Al) : Prop := l.Pairwise ltA

instance (a b : Al) : Decidable (ltA a b) := by unfold ltA; exact inferInstance

/-- Where an alarm would be. -/
def posA (l : List Al) (a : Al) : Nat := (l.takeWhile fun x => decide (ltA x a)).length

theorem ltA_trans {a b c : Al} (h : ltA a b) (k : ltA b c) : ltA a c := by unfold ltA at *; omega
theorem ltA_irrefl (a : Al) : ¬ ltA a a := by unfold ltA; omega
theorem ltA_tri (a b : Al) : ltA a b ∨ a = b ∨ ltA b a := by
  rw [al_ext]
  unfold ltA
  omega

theorem posA_pos {l : List Al} (hs : Srt l) (a : Al) : Pos l a (posA l a) := by
  unfold Pos posA
  induction l with
  | nil => simp
  | cons x l ih =>
    have hs' := List.pairwise_cons.1 hs
    by_cases hx : ltA x a
    · have hx' : decide (ltA x a) = true := decide_eq_true hx
      obtain ⟨i1, i2, i3⟩ := ih hs'.2
      rw [List.takeWhile_cons, hx']
      simp only [if_true, List.length_cons]
      refine ⟨by omega, ?_, ?_⟩
      · intro i h hi
        cases i with
        | zero => simpa using cmp_lt.2 hx
        | succ i => simpa using i2 i (by simpa using h) (by omega)
      · intro i h hi
        cases i with
        | zero => omega
        | succ i => simpa using i3 i (by simpa using h) (by omega)
    · have hx' : decide (ltA x a) = false := decide_eq_false hx
      rw [List.takeWhile_cons, hx']
      simp only [Bool.false_eq_true, if_false, List.length_nil]
      refine ⟨by omega, fun i _ h => by omega, ?_⟩
      intro i h _ hc
      rw [cmp_lt] at hc
      cases i with
      | zero => exact hx (by simpa using hc)
      | succ i =>
        have hm : l[i]'(by simpa using h) ∈ l := List.getElem_mem _
        exact hx (ltA_trans (hs'.1 _ hm) (by simpa using hc))

/-- The list with one more alarm. -/
def insA (l : List Al) (a : Al) : List Al := l.take (posA l a) ++ a :: l.drop (posA l a)

theorem insA_cons {x a : Al} {l : List Al} : insA (x :: l) a = if ltA x a then x :: insA l a else a :: x :: l := by
  unfold insA posA
  by_cases h : ltA x a
  · rw [List.takeWhile_cons, decide_eq_true h, if_pos h]; simp
  · rw [List.takeWhile_cons, decide_eq_false h, if_neg h]; simp

theorem mem_insA {l : List Al} {a b : Al} : b ∈ insA l a ↔ b = a ∨ b ∈ l := by
  induction l with
  | nil => simp [insA, posA]
  | cons x l ih =>
    rw [insA_cons]
    split
    · simp [ih]; constructor
      · rintro (h | h | h) <;> simp [h]
      · rintro (h | h | h) <;> simp [h]
    · simp

theorem len_insA (l : List Al) (a : Al) : (insA l a).length = l.length + 1 := by
  induction l with
  | nil => rfl
  | cons x l ih =>
    rw [insA_cons]
    split
    · simp [ih]
    · simp

theorem srt_insA {l : List Al} {a : Al} (hs : Srt l) (ha : ∀ x, x ∈ l → x ≠ a) : Srt (insA l a) := by
  induction l with
  | nil => simp [Srt, insA, posA]
  | cons x l ih =>
    have hs' := List.pairwise_cons.1 hs
    rw [insA_cons]
    split
    · rename_i h
      refine List.pairwise_cons.2 ⟨fun b hb => ?_, ih hs'.2 fun y hy => ha y (List.mem_cons_of_mem _ hy)⟩
      rcases mem_insA.1 hb with rfl | hb
      · exact h
      · exact hs'.1 b hb
    · rename_i h
      have hax : ltA a x := by
        rcases ltA_tri x a with h' | h' | h'
        · exact absurd h' h
        · exact absurd h' (ha x (by simp))
        · exact h'
      refine List.pairwise_cons.2 ⟨fun b hb => ?_, hs⟩
      rcases List.mem_cons.1 hb with rfl | hb
      · exact hax
      · exact ltA_trans hax (hs'.1 b hb)

/-! IDs -/
theorem idxFrom_neg {id : Int} : ∀ {l : List Al} {i : Nat}, (∀ x, x ∈ l → x.id ≠ id) → idxFrom id l i = -1
  | [], _, _ => rfl
  | a :: l, i, h => by
    rw [idxFrom, if_neg (h a (by simp))]
    exact idxFrom_neg fun x hx => h x (List.mem_cons_of_mem _ hx)

theorem idxFrom_some {id : Int} : ∀ {l : List Al} {i : Nat}, (∃ x, x ∈ l ∧ x.id = id) → ∃ k, k < l.length ∧ idxFrom id l i = ((i + k : Nat) : Int) ∧ (∃ h : k < l.length, l[k].id = id)
  | [], _, h => by obtain ⟨x, hx, _⟩ := h; cases hx
  | a :: l, i, h => by
    by_cases ha : a.id = id
    · exact ⟨0, by simp, by rw [idxFrom, if_pos ha]; simp, by simp, by simpa using ha⟩
    · obtain ⟨k, h1, h2, h3, h4⟩ := idxFrom_some (l := l) (i := i + 1) (by
        obtain ⟨x, hx, hid⟩ := h
        rcases List.mem_cons.1 hx with rfl | hx
        · exact absurd hid ha
        · exact ⟨x, hx, hid⟩)
      refine ⟨k + 1, by simp; omega, ?_, by simp; omega, by simpa using h4⟩
      rw [idxFrom, if_neg ha, h2]
      congr 1
      omega

end Go.Proofs.Ytldgonjihhndgaa
