/-
  What a sorted list of pairs holds for a key, and how calls change it.
  Conditions: none. By an AI agent.
-/
import Derived.Test.YtlagijfkkpbbnaaP
set_option maxRecDepth 10000
set_option linter.unusedSimpArgs false
set_option linter.unusedVariables false
namespace Go.Proofs.Ytlagijfkkpbbnaa
open Go Eng

/-- The value of a key. -/
def val (l : List Pr) (k : ByteArray) : Option ByteArray := (l.find? fun a => decide (a.key = k)).map Pr.value

theorem val_none {l : List Pr} {k : ByteArray} (h : ∀ a ∈ l, ¬ a.key = k) : val l k = none := by
  unfold val
  rw [List.find?_eq_none.2 (by simpa using h)]
  rfl
theorem val_cons (a : Pr) (l : List Pr) (k : ByteArray) : val (a :: l) k = if a.key = k then some a.value else val l k := by
  unfold val
  rw [List.find?_cons]
  by_cases h : a.key = k
  · simp [h]
  · simp [h]
theorem val_append (l m : List Pr) (k : ByteArray) : val (l ++ m) k = (val l k).or (val m k) := by
  unfold val
  rw [List.find?_append]
  cases List.find? (fun a => decide (a.key = k)) l <;> rfl
theorem val_mem : ∀ {l : List Pr} (_ : Srt l) {a : Pr}, a ∈ l → val l a.key = some a.value
  | [], _, _, h => by cases h
  | b :: l, hs, a, h => by
    obtain ⟨hb, hl⟩ := List.pairwise_cons.1 hs
    rw [val_cons]
    rcases List.mem_cons.1 h with rfl | h
    · rw [if_pos rfl]
    · have := hb a h
      rw [if_neg fun he => by rw [he, cmpS_self] at this; omega]
      exact val_mem hl h

theorem val_isP {l : List Pr} (hs : Srt l) (k : ByteArray) : val l k = if isP l k (posP l k) = true then some ((l[posP l k]?).elim (mk []) Pr.value) else none := by
  by_cases h : isP l k (posP l k) = true
  · obtain ⟨hp, he⟩ := isP_eq h
    rw [if_pos h, List.getElem?_eq_getElem hp]
    have := val_mem hs (List.getElem_mem hp)
    rw [he] at this
    exact this
  · rw [if_neg h]
    refine val_none fun a ha hk => h ?_
    obtain ⟨i, hi, rfl⟩ := List.getElem_of_mem ha
    rw [← hk]
    exact isP_self hs hi
theorem getP_val {l : List Pr} (hs : Srt l) (k : ByteArray) : getP l k (posP l k) = match val l k with | some v => .tuple #[.string v, .int .i64 0] | none => .tuple #[.string (mk []), .int .i64 9] := by
  rw [val_isP hs]
  unfold getP
  split <;> rfl

theorem val_set {a : Pr} {k : ByteArray} (hk : ¬ a.key = k) : ∀ (l : List Pr) (p : Nat), (∀ h : p < l.length, l[p].key = a.key) → val (l.set p a) k = val l k
  | [], _, _ => rfl
  | b :: l, 0, h => by
    have := h (by simp)
    rw [List.set_cons_zero, val_cons, val_cons, if_neg hk, if_neg (by rw [show b.key = a.key from this]; exact hk)]
  | b :: l, p + 1, h => by
    rw [List.set_cons_succ, val_cons, val_cons, val_set hk l p fun hp => h (by simpa using hp)]
theorem val_ins {a : Pr} {k : ByteArray} (hk : ¬ a.key = k) (l : List Pr) (p : Nat) : val (l.take p ++ a :: l.drop p) k = val l k := by
  rw [val_append, val_cons, if_neg hk, ← val_append, List.take_append_drop]
theorem val_del {l : List Pr} {k : ByteArray} {p : Nat} (hp : p < l.length) (hk : ¬ l[p].key = k) : val (l.take p ++ l.drop (p + 1)) k = val l k := by
  have e : l = l.take p ++ l[p] :: l.drop (p + 1) := by rw [← List.drop_eq_getElem_cons hp, List.take_append_drop]
  have h2 : val l k = val (l.take p ++ l[p] :: l.drop (p + 1)) k := by rw [← e]
  rw [h2, val_append, val_append, val_cons, if_neg hk]
theorem val_del_self {l : List Pr} (hs : Srt l) {p : Nat} (hp : p < l.length) : val (l.take p ++ l.drop (p + 1)) l[p].key = none := by
  refine val_none fun a ha hk => ?_
  rcases List.mem_append.1 ha with h | h
  · obtain ⟨i, hi, rfl⟩ := List.getElem_of_mem h
    rw [List.getElem_take] at hk
    have hi' : i < p := by simp at hi; omega
    have := List.pairwise_iff_getElem.1 hs i p (by omega) hp hi'
    rw [hk, cmpS_self] at this
    omega
  · obtain ⟨i, hi, rfl⟩ := List.getElem_of_mem h
    rw [List.getElem_drop] at hk
    have hi' : p + 1 + i < l.length := by simp at hi; omega
    have := List.pairwise_iff_getElem.1 hs p (p + 1 + i) hp hi' (by omega)
    rw [hk, cmpS_self] at this
    omega

/-- What a call makes of the value of a key: where there is no error, the key has the new value; nothing else is changed. -/
structure Eff (l l' : List Pr) (e : Int) (key : ByteArray) (v : Option ByteArray) : Prop where
  self : e = 0 → val l' key = v
  other : ∀ k, ¬ key = k → val l' k = val l k
  err : e ≠ 0 → l' = l

theorem eff_put {l : List Pr} (hs : Srt l) (a : Pr) : Eff l (putP l a (posP l a.key)).2 (putP l a (posP l a.key)).1 a.key (some a.value) := by
  have hs' := srt_put hs a
  unfold putP at hs' ⊢
  split
  · rename_i h
    rw [if_pos h] at hs'
    obtain ⟨hp, he⟩ := isP_eq h
    exact ⟨fun _ => val_mem hs' (List.mem_iff_getElem.2 ⟨posP l a.key, by simpa using hp, by simp⟩), fun k hk => val_set hk l _ fun _ => he, fun h => absurd rfl h⟩
  · rename_i h
    rw [if_neg h] at hs'
    split
    · exact ⟨fun h => (by simp at h), fun k _ => rfl, fun _ => rfl⟩
    · rename_i h2
      rw [if_neg h2] at hs'
      exact ⟨fun _ => val_mem hs' (by simp), fun k hk => val_ins hk l _, fun h => absurd rfl h⟩
theorem eff_insert {l : List Pr} (hs : Srt l) (a : Pr) : Eff l (insertP l a (posP l a.key)).2 (insertP l a (posP l a.key)).1 a.key (some a.value) := by
  have hs' := srt_insert hs a
  unfold insertP at hs' ⊢
  split
  · exact ⟨fun h => (by simp at h), fun k _ => rfl, fun _ => rfl⟩
  · rename_i h
    rw [if_neg h] at hs'
    split
    · exact ⟨fun h => (by simp at h), fun k _ => rfl, fun _ => rfl⟩
    · rename_i h2
      rw [if_neg h2] at hs'
      exact ⟨fun _ => val_mem hs' (by simp), fun k hk => val_ins hk l _, fun h => absurd rfl h⟩
theorem eff_swap {l : List Pr} (hs : Srt l) (key old new : ByteArray) : Eff l (swapP l key old new (posP l key)).2 (swapP l key old new (posP l key)).1 key (some new) := by
  have hs' := srt_swap hs key old new
  unfold swapP at hs' ⊢
  split
  · rename_i h
    rw [if_pos h] at hs'
    obtain ⟨hp, he⟩ := isP_eq h
    split
    · rename_i h2
      rw [if_pos h2] at hs'
      exact ⟨fun _ => val_mem (a := ⟨key, new⟩) hs' (List.mem_iff_getElem.2 ⟨posP l key, by simpa using hp, by simp⟩), fun k hk => val_set (a := ⟨key, new⟩) hk l _ fun _ => he, fun h => absurd rfl h⟩
    · exact ⟨fun h => (by simp at h), fun k _ => rfl, fun _ => rfl⟩
  · exact ⟨fun h => (by simp at h), fun k _ => rfl, fun _ => rfl⟩
theorem eff_delete {l : List Pr} (hs : Srt l) (key : ByteArray) : Eff l (if isP l key (posP l key) = true then l.take (posP l key) ++ l.drop (posP l key + 1) else l) (if isP l key (posP l key) = true then 0 else 9) key none := by
  split
  · rename_i h
    obtain ⟨hp, he⟩ := isP_eq h
    refine ⟨fun _ => ?_, fun k hk => val_del hp (by rw [he]; exact hk), fun h => absurd rfl h⟩
    have := val_del_self hs hp
    rw [he] at this
    exact this
  · exact ⟨fun h => (by simp at h), fun k _ => rfl, fun _ => rfl⟩

/-! ### Sorted lists with the same elements -/
theorem srt_ext : ∀ {c l : List Pr} (_ : Srt c) (_ : Srt l), (∀ a, a ∈ c ↔ a ∈ l) → c = l
  | [], [], _, _, _ => rfl
  | [], b :: l, _, _, h => by have := (h b).2 (by simp); cases this
  | a :: c, [], _, _, h => by have := (h a).1 (by simp); cases this
  | a :: c, b :: l, hc, hl, h => by
    obtain ⟨ha, hc'⟩ := List.pairwise_cons.1 hc
    obtain ⟨hb, hl'⟩ := List.pairwise_cons.1 hl
    have e : a = b := by
      rcases List.mem_cons.1 ((h a).1 (by simp)) with h1 | h1
      · exact h1
      · rcases List.mem_cons.1 ((h b).2 (by simp)) with h2 | h2
        · exact h2.symm
        · have := cmpS_trans (ha b h2) (hb a h1)
          rw [cmpS_self] at this
          omega
    subst e
    rw [srt_ext hc' hl' fun x => ?_]
    constructor
    · intro hx
      rcases List.mem_cons.1 ((h x).1 (List.mem_cons_of_mem _ hx)) with h1 | h1
      · have := ha x hx
        rw [h1, cmpS_self] at this
        omega
      · exact h1
    · intro hx
      rcases List.mem_cons.1 ((h x).2 (List.mem_cons_of_mem _ hx)) with h1 | h1
      · have := hb x hx
        rw [h1, cmpS_self] at this
        omega
      · exact h1

/-! ### Allowed pairs -/
def AllOk (l : List Pr) : Prop := ∀ a ∈ l, chk a.key [a.value] = 0
theorem ofErr_ok : ∀ {l : List Pr} (o : Option Pr), Srt l → AllOk l → (∀ b, o = some b → ∀ a ∈ l, cmpS b.key a.key < 0) → ofErr o l = 0
  | [], _, _, _, _ => rfl
  | a :: l, o, hs, hk, ho => by
    obtain ⟨ha, hl⟩ := List.pairwise_cons.1 hs
    have h1 : chk a.key [a.value] = 0 := hk a (by simp)
    have h2 : (o.elim false fun b => decide (0 ≤ cmpS b.key a.key)) = false := by
      cases o with
      | none => rfl
      | some b =>
        have := ho b rfl a (by simp)
        simp; omega
    rw [ofErr, if_neg (by simp [h1]), h2, if_neg (by simp)]
    exact ofErr_ok (some a) hl (fun b hb => hk b (by simp [hb])) fun b hb => by cases hb; exact ha
theorem allOk_put {l : List Pr} (h : AllOk l) {a : Pr} (ha : chk a.key [a.value] = 0) (p : Nat) : AllOk (putP l a p).2 := by
  unfold putP
  split
  · intro b hb
    rcases List.mem_or_eq_of_mem_set hb with hb | rfl
    · exact h b hb
    · exact ha
  · split
    · exact h
    · intro b hb
      rcases List.mem_append.1 hb with hb | hb
      · exact h b (List.mem_of_mem_take hb)
      · rcases List.mem_cons.1 hb with rfl | hb
        · exact ha
        · exact h b (List.mem_of_mem_drop hb)
theorem allOk_insert {l : List Pr} (h : AllOk l) {a : Pr} (ha : chk a.key [a.value] = 0) (p : Nat) : AllOk (insertP l a p).2 := by
  unfold insertP
  split
  · exact h
  · split
    · exact h
    · intro b hb
      rcases List.mem_append.1 hb with hb | hb
      · exact h b (List.mem_of_mem_take hb)
      · rcases List.mem_cons.1 hb with rfl | hb
        · exact ha
        · exact h b (List.mem_of_mem_drop hb)
theorem allOk_swap {l : List Pr} (h : AllOk l) {key old new : ByteArray} (ha : chk key [new] = 0) (p : Nat) : AllOk (swapP l key old new p).2 := by
  unfold swapP
  split
  · split
    · intro b hb
      rcases List.mem_or_eq_of_mem_set hb with hb | rfl
      · exact h b hb
      · exact ha
    · exact h
  · exact h
theorem allOk_sub {l m : List Pr} (h : AllOk l) (hm : ∀ a ∈ m, a ∈ l) : AllOk m := fun a ha => h a (hm a ha)

end Go.Proofs.Ytlagijfkkpbbnaa
