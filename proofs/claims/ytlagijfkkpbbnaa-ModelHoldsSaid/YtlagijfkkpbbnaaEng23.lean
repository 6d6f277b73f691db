/-
  The engine, part 23: lists that lie in rows of cells: reading, slicing, appending.
  Conditions: none. By an AI agent.
-/
import Derived.Test.YtlagijfkkpbbnaaEng20
import Derived.Test.YtlagijfkkpbbnaaEng22
namespace Go.Proofs.Ytlagijfkkpbbnaa.Eng
open Go
set_option linter.unusedVariables false
set_option linter.unusedSimpArgs false

/-- How an element lies in cells. -/
structure Enc (α : Type) where
  w : Nat
  enc : α → List Value
  len : ∀ a, (enc a).length = w
  pos : 0 < w
  one : ∀ a, (enc a).all one = true

namespace Enc
variable {α : Type} (E : Enc α)

def cells (l : List α) : List Value := l.flatMap E.enc
@[simp] theorem cells_nil : E.cells [] = [] := rfl
@[simp] theorem cells_cons (a : α) (l : List α) : E.cells (a :: l) = E.enc a ++ E.cells l := rfl
theorem cells_append (l m : List α) : E.cells (l ++ m) = E.cells l ++ E.cells m := by simp [cells]
@[simp] theorem cells_len : ∀ (l : List α), (E.cells l).length = l.length * E.w
  | [] => by simp
  | a :: l => by simp [E.len, cells_len l, Nat.add_mul]; omega
theorem cells_one : ∀ (l : List α), (E.cells l).all Eng.one = true
  | [] => rfl
  | a :: l => by rw [cells_cons, List.all_append, E.one, cells_one l]; rfl
theorem cells_drop : ∀ (l : List α) (i : Nat), (E.cells l).drop (i * E.w) = E.cells (l.drop i)
  | l, 0 => by simp
  | [], i + 1 => by simp
  | a :: l, i + 1 => by
    rw [cells_cons, List.drop_append, E.len, List.drop_eq_nil_of_le (by rw [E.len, Nat.add_mul]; omega)]
    rw [show (i + 1) * E.w - E.w = i * E.w by rw [Nat.add_mul]; omega, cells_drop l i]
    simp
theorem cells_take : ∀ (l : List α) (i : Nat), (E.cells l).take (i * E.w) = E.cells (l.take i)
  | l, 0 => by simp
  | [], i + 1 => by simp
  | a :: l, i + 1 => by
    rw [cells_cons, List.take_append, E.len, List.take_of_length_le (by rw [E.len, Nat.add_mul]; omega)]
    rw [show (i + 1) * E.w - E.w = i * E.w by rw [Nat.add_mul]; omega, cells_take l i]
    simp
theorem cells_elem (l : List α) (i : Nat) (h : i < l.length) : ((E.cells l).drop (i * E.w)).take E.w = E.enc l[i] := by
  rw [cells_drop, List.drop_eq_getElem_cons h, cells_cons, List.take_append, E.len, Nat.sub_self, List.take_zero, List.append_nil, List.take_of_length_le (by rw [E.len]; exact Nat.le_refl _)]
end Enc

variable {P : Program} {α : Type} {E : Enc α} {H H' : AHeap} {v : Value} {l : List α} {e : TypeId}

/-- A slice that reads as a list. -/
def Rd (E : Enc α) (H : AHeap) (v : Value) (l : List α) : Prop :=
  (l = [] ∧ v = .slice none 0 0) ∨ (l = [] ∧ ∃ a k, v = .slice (some a) 0 k ∧ a.spot = none) ∨
  ∃ b o c, v = .slice (some ⟨b, o, none⟩) l.length c ∧ l ≠ [] ∧ b < H.n ∧ cutB (H.f b) o (l.length * E.w) = some (E.cells l)

/-- The block of a slice that has elements. -/
def Off (S : Nat → Prop) (v : Value) : Prop := ∀ b, blockOf v = some b → ¬ S b

theorem Rd.keep {S : Nat → Prop} (r : Rd E H v l) (h : Fr S H H') (hs : Off S v) : Rd E H' v l := by
  rcases r with r | r | ⟨b, o, c, rfl, hl, hb, hc⟩
  · exact .inl r
  · exact .inr (.inl r)
  · exact .inr (.inr ⟨b, o, c, rfl, hl, Nat.lt_of_lt_of_le hb h.n, by rw [h.f hb (hs b rfl)]; exact hc⟩)
theorem Rd.still (r : Rd E H v l) (h : Still H H') : Rd E H' v l := r.keep h fun _ _ h => h

theorem cutB_sub {k : Blk} {o n : Nat} {xs : List Value} (h : cutB k o n = some xs) {i m : Nat} (hi : i + m ≤ n) : cutB k (o + i) m = some ((xs.drop i).take m) := by
  unfold cutB at h ⊢
  cases k with
  | cells ys e rw =>
    simp only at h ⊢
    split at h
    · cases h
      rw [if_pos (by omega), List.drop_take, List.take_take, List.drop_drop, Nat.min_eq_left (by omega)]
    · cases h
  | _ => cases h

theorem cutB_len {k : Blk} {o n : Nat} {xs : List Value} (h : cutB k o n = some xs) : xs.length = n := by
  unfold cutB at h
  cases k with
  | cells ys e rw =>
    simp only at h
    split at h
    · cases h
      simp; omega
    · cases h
  | _ => cases h

theorem cutB_cell {k : Blk} {o n : Nat} {xs : List Value} (h : cutB k o n = some xs) {i : Nat} (hi : i < n) : cellB k (o + i) = xs[i]? := by
  unfold cutB at h
  unfold cellB
  cases k with
  | cells ys e rw =>
    simp only at h ⊢
    split at h
    · cases h
      rw [List.getElem?_take_of_lt hi, List.getElem?_drop]
    · cases h
  | _ => cases h

/-- Its elements, one by one. -/
theorem Rd.elem (r : Rd E H v l) {i : Nat} (hi : i < l.length) : ∃ b o c, v = .slice (some ⟨b, o, none⟩) l.length c ∧ b < H.n ∧ cutB (H.f b) (o + i * E.w) E.w = some (E.enc l[i]) := by
  rcases r with ⟨rfl, _⟩ | ⟨rfl, _⟩ | ⟨b, o, c, hv, hl, hb, hc⟩
  · simp at hi
  · simp at hi
  · refine ⟨b, o, c, hv, hb, ?_⟩
    rw [cutB_sub hc (i := i * E.w) (m := E.w) (by have := Nat.mul_le_mul_right E.w hi; rw [Nat.succ_mul] at this; exact this), E.cells_elem l i hi]

theorem Rd.shape (r : Rd E H v l) : ∃ a c, v = .slice a l.length c := by
  rcases r with ⟨rfl, rfl⟩ | ⟨rfl, a, k, rfl, _⟩ | ⟨b, o, c, rfl, hl, hb, hc⟩ <;> exact ⟨_, _, rfl⟩

theorem Rd.lenS (r : Rd E H v l) : Eng.lenS v = some (.int .i64 l.length) := by
  obtain ⟨a, c, rfl⟩ := r.shape
  rfl

/-- What append takes of it. -/
theorem Rd.src (r : Rd E H v l) {sz : Nat} (hsz : sz = E.w) : srcS sz v H = some (l.length, E.cells l) := by
  subst hsz
  rcases r with ⟨rfl, rfl⟩ | ⟨rfl, ⟨b, o, s⟩, k, rfl, hs⟩ | ⟨b, o, c, rfl, hl, hb, hc⟩
  · rfl
  · simp only at hs
    subst hs
    rfl
  · unfold srcS
    have h0 : l.length ≠ 0 := fun h => hl (List.length_eq_zero_iff.1 h)
    simp only [h0, if_false, cut_b, hc, Option.map_some]

@[go_sem] theorem ixS_int {sz b o len code : Nat} {i : Int} {q : IntKind} (h : 0 ≤ i ∧ i < (len : Int)) : ixS sz (.slice (some ⟨b, o, none⟩) len code) (.int q i) = some (.pointer (some ⟨b, o + i.toNat * sz, none⟩)) := by
  unfold ixS
  simp only
  rw [if_pos h]
theorem ixS_nat {sz b o len code k : Nat} {q : IntKind} (h : k < len) : ixS sz (.slice (some ⟨b, o, none⟩) len code) (.int q (k : Int)) = some (.pointer (some ⟨b, o + k * sz, none⟩)) := by
  rw [ixS_int ⟨by omega, by omega⟩, Int.toNat_natCast]
attribute [go_sem] Int.toNat_natCast Nat.zero_mul Nat.mul_one

theorem Rd.ix (r : Rd E H v l) {i : Nat} (hi : i < l.length) {q : IntKind} : ∃ b o, ixS E.w v (.int q (i : Int)) = some (.pointer (some ⟨b, o, none⟩)) ∧ b < H.n ∧ cutB (H.f b) o E.w = some (E.enc l[i]) ∧ blockOf v = some b := by
  obtain ⟨b, o, c, rfl, hb, hc⟩ := r.elem hi
  exact ⟨b, o + i * E.w, ixS_nat hi, hb, hc, rfl⟩

/-! ### Rows that are the function's own, and may grow -/

/-- A list in a row of its own that ends with the row's end; or an empty one. -/
def Own (E : Enc α) (H : AHeap) (e : TypeId) (v : Value) (l : List α) : Prop :=
  (l = [] ∧ v = .slice none 0 0) ∨ (l = [] ∧ ∃ a, v = .slice (some a) 0 0 ∧ a.spot = none ∧ a.block < H.n) ∨
  ∃ b o c xs, v = .slice (some ⟨b, o, none⟩) l.length (2 * c + 1) ∧ l.length ≤ c ∧ b < H.n ∧ H.f b = .cells xs e true ∧ o + c * E.w = xs.length ∧ (xs.drop o).take (l.length * E.w) = E.cells l

theorem Own.rd (r : Own E H e v l) : Rd E H v l := by
  rcases r with r | ⟨hl, a, h, hs, _⟩ | ⟨b, o, c, xs, rfl, hl, hb, hf, ho, hx⟩
  · exact .inl r
  · exact .inr (.inl ⟨hl, a, 0, h, hs⟩)
  · by_cases h0 : l = []
    · subst h0; exact .inr (.inl ⟨rfl, _, _, rfl, rfl⟩)
    · refine .inr (.inr ⟨b, o, _, rfl, h0, hb, ?_⟩)
      rw [hf]
      unfold cutB
      simp only
      rw [if_pos (by have := Nat.mul_le_mul_right E.w hl; omega), hx]

theorem Own.keep {S : Nat → Prop} (r : Own E H e v l) (h : Fr S H H') (hs : Off S v) : Own E H' e v l := by
  rcases r with r | ⟨hl, a, hv, hsp, hb⟩ | ⟨b, o, c, xs, rfl, hl, hb, hf, ho, hx⟩
  · exact .inl r
  · exact .inr (.inl ⟨hl, a, hv, hsp, Nat.lt_of_lt_of_le hb h.n⟩)
  · exact .inr (.inr ⟨b, o, c, xs, rfl, hl, Nat.lt_of_lt_of_le hb h.n, by rw [h.f hb (hs b rfl)]; exact hf, ho, hx⟩)
theorem Own.cell (r : Own E H e v l) : Eng.one v = true := by
  rcases r with ⟨_, rfl⟩ | ⟨_, a, rfl, _, hb⟩ | ⟨b', o, c, xs, rfl, _, hb, _⟩ <;> rfl
theorem Own.blk (r : Own E H e v l) {b : Nat} (h : blockOf v = some b) : b < H.n := by
  rcases r with ⟨_, rfl⟩ | ⟨_, a, rfl, _, hb⟩ | ⟨b', o, c, xs, rfl, _, hb, _⟩
  · cases h
  · cases h; exact hb
  · cases h; exact hb
theorem Own.still (r : Own E H e v l) (h : Still H H') : Own E H' e v l := r.keep h fun _ _ h => h

/-- Only its block, or one that is new, may be turned when it grows. -/
def OnlyOf (v : Value) : Nat → Prop := fun b => blockOf v = some b

theorem Fr.kill (H : AHeap) (b : Nat) : Fr (fun c => c = b) H (H.set b .dead) := (Fr.refl H).set b _ fun _ => rfl

/-- Appending to a list of its own. -/
theorem Own.app (r : Own E H e v l) {m : List α} (hm : m ≠ []) {sz bytes : Nat} (hsz : sz = E.w) (hb : (l.length + m.length) * bytes ≤ 140737488355328) (hn : l.length + m.length ≤ 140737488355328)
    {src : Option (Nat × List Value)} (hsrc : src = some (m.length, E.cells m)) :
    ∃ v' H', Eng.app e sz bytes v src H = some (v', H') ∧ Own E H' e v' (l ++ m) ∧ Fr (OnlyOf v) H H' ∧ (blockOf v' = blockOf v ∨ blockOf v' = some H.n) ∧ gr 9 v' = false := by
  subst hsz hsrc
  have hm0 : m.length ≠ 0 := fun h => hm (List.length_eq_zero_iff.1 h)
  have hbig : ¬ ((l.length + m.length) * bytes > 140737488355328 ∨ l.length + m.length > 140737488355328) := by omega
  have hone := E.cells_one m
  rcases r with ⟨rfl, rfl⟩ | ⟨rfl, ⟨b, o, s⟩, rfl, hs, hbb⟩ | ⟨b, o, c, xs, rfl, hl, hbn, hf, ho, hx⟩
  · refine ⟨.slice (some ⟨H.n, 0, none⟩) m.length (2 * m.length + 1), H.push (.cells (E.cells m) e true), ?_, ?_, (Fr.refl H).push _, .inr rfl, rfl⟩
    · simp only [List.length_nil, Nat.zero_add] at hbig
      simp only [Eng.app, Option.bind_some, hm0, if_false, Nat.zero_add, hbig, Nat.zero_div, Nat.le_zero_eq, hone, Bool.true_eq_false, oldOf, if_true, Nat.zero_mod, Option.map_some, List.nil_append]
    · refine .inr (.inr ⟨H.n, 0, m.length, E.cells m, by simp, by simp, by simp, by simp, by simp, ?_⟩)
      simp only [List.drop_zero, List.nil_append]
      rw [List.take_of_length_le (by simp)]
  · simp only at hs
    subst hs
    refine ⟨.slice (some ⟨H.n, 0, none⟩) m.length (2 * m.length + 1), H.push (.cells (E.cells m) e true), ?_, ?_, (Fr.refl H).push _, .inr rfl, rfl⟩
    · simp only [List.length_nil, Nat.zero_add] at hbig
      simp only [Eng.app, Option.bind_some, hm0, if_false, Nat.zero_add, hbig, Nat.zero_div, Nat.le_zero_eq, hone, Bool.true_eq_false, oldOf, if_true, Nat.zero_mod, Option.map_some, List.nil_append]
    · refine .inr (.inr ⟨H.n, 0, m.length, E.cells m, by simp, by simp, by simp, by simp, by simp, ?_⟩)
      simp only [List.drop_zero, List.nil_append]
      rw [List.take_of_length_le (by simp)]
  · have hc2 : (2 * c + 1) / 2 = c := by omega
    have hc3 : (2 * c + 1) % 2 = 1 := by omega
    have hmulc := Nat.mul_le_mul_right E.w hl
    by_cases hroom : l.length + m.length ≤ c
    · have hmul := Nat.mul_le_mul_right E.w hroom
      rw [Nat.add_mul] at hmul
      refine ⟨.slice (some ⟨b, o, none⟩) (l.length + m.length) (2 * c + 1), H.set b (.cells (spl xs (o + l.length * E.w) (E.cells m)) e true), ?_, ?_, (Fr.refl H).set b _ fun _ => rfl, .inl rfl, rfl⟩
      · simp only [Eng.app, Option.bind_some, hm0, if_false, hbig, hc2, hroom, if_true, stL_b, hf]
        rw [wrL_c (by simp; omega) hone]
        rfl
      · refine .inr (.inr ⟨b, o, c, _, by simp, by simp; omega, by simpa using hbn, set_f_eq, ?_, ?_⟩)
        · rw [spl_length, ho]
        · apply List.ext_getElem?
          intro j
          rw [List.length_append, Nat.add_mul]
          by_cases hj : j < l.length * E.w + m.length * E.w
          · rw [List.getElem?_take_of_lt hj, List.getElem?_drop, spl_get _ _ _ _ (by simp; omega), E.cells_append, List.getElem?_append, E.cells_len, E.cells_len]
            by_cases h1 : j < l.length * E.w
            · rw [if_neg (by omega), if_pos h1, ← hx, List.getElem?_take_of_lt h1, List.getElem?_drop]
            · rw [if_pos (by omega), if_neg h1, show o + j - (o + l.length * E.w) = j - l.length * E.w by omega]
          · rw [List.getElem?_eq_none (by simp; omega), List.getElem?_eq_none (by simp [Nat.add_mul]; omega)]
    · refine ⟨.slice (some ⟨H.n, 0, none⟩) (l.length + m.length) (2 * (l.length + m.length) + 1), (H.set b .dead).push (.cells (E.cells l ++ E.cells m) e true), ?_, ?_, Fr.push (Fr.set (S := OnlyOf (.slice (some ⟨b, o, none⟩) l.length (2 * c + 1))) (Fr.refl H) b _ (fun _ => rfl)) _, .inr rfl, rfl⟩
      · have hold : oldOf E.w l.length H (some ⟨b, o, none⟩) = some (E.cells l) := by
          unfold oldOf
          split
          · rename_i h0; rw [List.length_eq_zero_iff.1 h0]; rfl
          · simp only [cut_b, hf]
            rw [cutB_c (by omega), hx]
        have hkill : kill H e c E.w (some ⟨b, o, none⟩) = some (H.set b .dead) := by
          unfold kill
          simp only [hf, true_and, ho, if_true]
        simp only [Eng.app, Option.bind_some, hm0, if_false, hbig, hc2, hroom, hone, Bool.true_eq_false, hold, hc3, Nat.one_ne_zero, hkill, Option.map_some, set_n']
      · refine .inr (.inr ⟨H.n, 0, l.length + m.length, E.cells l ++ E.cells m, by simp, by simp, by simp, push_f_eq rfl, by simp [Nat.add_mul], ?_⟩)
        simp only [List.drop_zero]
        rw [List.take_of_length_le (by simp [Nat.add_mul]), E.cells_append]

/-- Cutting off the front. -/
theorem Own.drop (r : Own E H e v l) {sz : Nat} (hsz : sz = E.w) {i : Nat} (hi : i ≤ l.length) {q : IntKind} : ∃ v', slS e sz v (some (.int q (i : Int))) none none H = some v' ∧ Own E H e v' (l.drop i) ∧ blockOf v' = blockOf v := by
  subst hsz
  rcases r with ⟨rfl, rfl⟩ | ⟨rfl, ⟨b, o, s⟩, rfl, hs, hbb⟩ | ⟨b, o, c, xs, rfl, hl, hbn, hf, ho, hx⟩
  · simp only [List.length_nil, Nat.le_zero_eq] at hi
    subst hi
    exact ⟨.slice none 0 0, rfl, .inl ⟨by simp, rfl⟩, rfl⟩
  · simp only at hs
    subst hs
    simp only [List.length_nil, Nat.le_zero_eq] at hi
    subst hi
    exact ⟨.slice (some ⟨b, o, none⟩) 0 0, by simp [slS, highOf, lowOf, bnd], .inr (.inl ⟨by simp, _, rfl, rfl, hbb⟩), rfl⟩
  · have hc2 : (2 * c + 1) / 2 = c := by omega
    have hmul := Nat.mul_le_mul_right E.w hl
    have hmi := Nat.mul_le_mul_right E.w hi
    refine ⟨.slice (some ⟨b, o + i * E.w, none⟩) (l.length - i) (2 * (c - i) + 1), ?_, .inr (.inr ⟨b, o + i * E.w, c - i, xs, by simp, by simp; omega, hbn, hf, by rw [Nat.sub_mul]; omega, ?_⟩), rfl⟩
    · simp only [slS, highOf, lowOf, bnd, hc2, Option.bind_some, show (0 : Int) ≤ (i : Int) ∧ (i : Int) ≤ (l.length : Nat) from ⟨by omega, by omega⟩, Int.toNat_natCast, hl, hf, rowOf, show (2 * c + 1) % 2 = 1 by omega]
      simp
    · rw [List.length_drop, Nat.sub_mul, ← E.cells_drop, ← hx, List.drop_take, List.drop_drop]

/-- A front part that is only read. -/
theorem Own.front (r : Own E H e v l) {sz : Nat} (hsz : sz = E.w) {i : Nat} (hi : i ≤ l.length) {q : IntKind} : ∃ v', slS e sz v none (some (.int q (i : Int))) (some (.int q (i : Int))) H = some v' ∧ Rd E H v' (l.take i) ∧ blockOf v' = blockOf v := by
  subst hsz
  rcases r with ⟨rfl, rfl⟩ | ⟨rfl, ⟨b, o, s⟩, rfl, hs, hbb⟩ | ⟨b, o, c, xs, rfl, hl, hbn, hf, ho, hx⟩
  · simp only [List.length_nil, Nat.le_zero_eq] at hi
    subst hi
    exact ⟨.slice none 0 0, rfl, .inl ⟨by simp, rfl⟩, rfl⟩
  · simp only at hs
    subst hs
    simp only [List.length_nil, Nat.le_zero_eq] at hi
    subst hi
    exact ⟨.slice (some ⟨b, o, none⟩) 0 0, by simp [slS, lowOf, bnd], .inr (.inl ⟨by simp, _, _, rfl, rfl⟩), rfl⟩
  · have hc2 : (2 * c + 1) / 2 = c := by omega
    have hmul := Nat.mul_le_mul_right E.w hl
    have hmi := Nat.mul_le_mul_right E.w hi
    have hval : slS e E.w (.slice (some ⟨b, o, none⟩) l.length (2 * c + 1)) none (some (.int q (i : Int))) (some (.int q (i : Int))) H = some (.slice (some ⟨b, if i = 0 then o else o + 0 * E.w, none⟩) (i - 0) (2 * (i - 0))) := by
      simp only [slS, lowOf, bnd, hc2, Option.bind_some, show (0 : Int) ≤ (i : Int) ∧ (i : Int) ≤ (c : Nat) from ⟨by omega, by omega⟩, show (0 : Int) ≤ (i : Int) ∧ (i : Int) ≤ (i : Nat) from ⟨by omega, by omega⟩, Int.toNat_natCast, and_self, if_true, Option.map_some]
    refine ⟨_, hval, ?_, rfl⟩
    have e1 : (if i = 0 then o else o + 0 * E.w) = o := by split <;> omega
    rw [e1, Nat.sub_zero]
    by_cases h0 : i = 0
    · subst h0; exact .inr (.inl ⟨by simp, _, _, rfl, rfl⟩)
    · have hlen : (l.take i).length = i := by simp; omega
      refine .inr (.inr ⟨b, o, 2 * i, by rw [hlen], fun h => h0 (by rw [← hlen, h]; rfl), hbn, ?_⟩)
      rw [hlen, hf, cutB_c (by omega), ← E.cells_take, ← hx, List.take_take, Nat.min_eq_left hmi]

end Go.Proofs.Ytlagijfkkpbbnaa.Eng
