/-
  The engine, part 25: inserting into, and deleting from, a list of its own.
  Conditions: none. By an AI agent.
-/
import Derived.Test.YtlagijfkkpbbnaaEng24
namespace Go.Proofs.Ytlagijfkkpbbnaa.Eng
open Go
set_option linter.unusedVariables false
set_option linter.unusedSimpArgs false

variable {P : Program} {α : Type} {E : Enc α} {H H' : AHeap} {v : Value} {l : List α} {e : TypeId}

theorem bnd_nat {y i : Nat} {q : IntKind} (h : i ≤ y) : bnd y (.int q (i : Int)) = some i := by
  unfold bnd
  simp only [Int.toNat_natCast]
  rw [if_pos ⟨by omega, by omega⟩]

theorem sl_lo {b o n c i sz : Nat} {q : IntKind} {xs : List Value} (hf : H.f b = .cells xs e true) (hi : i ≤ n) (hn : n ≤ c) :
    slS e sz (.slice (some ⟨b, o, none⟩) n (2 * c + 1)) (some (.int q (i : Int))) none none H = some (.slice (some ⟨b, o + i * sz, none⟩) (n - i) (2 * (c - i) + 1)) := by
  simp only [slS, highOf, lowOf, bnd_nat hi, show (2 * c + 1) / 2 = c by omega, Option.bind_some, hn, if_true, show ¬ ((2 * c + 1) % 2 = 0) by omega, if_false, hf, rowOf, beq_self_eq_true]
theorem sl_hi {b o n c i sz : Nat} {q : IntKind} {xs : List Value} (hf : H.f b = .cells xs e true) (hi : i ≤ c) :
    slS e sz (.slice (some ⟨b, o, none⟩) n (2 * c + 1)) none (some (.int q (i : Int))) none H = some (.slice (some ⟨b, o, none⟩) i (2 * c + 1)) := by
  simp only [slS, highOf, lowOf, show (2 * c + 1) / 2 = c by omega, bnd_nat hi, Option.bind_some, hi, if_true, show ¬ ((2 * c + 1) % 2 = 0) by omega, if_false, hf, rowOf, beq_self_eq_true]
  simp
theorem sl_lohi {b o n c i j sz : Nat} {q q' : IntKind} {xs : List Value} (hf : H.f b = .cells xs e true) (hi : i ≤ j) (hj : j ≤ c) :
    slS e sz (.slice (some ⟨b, o, none⟩) n (2 * c + 1)) (some (.int q (i : Int))) (some (.int q' (j : Int))) none H = some (.slice (some ⟨b, o + i * sz, none⟩) (j - i) (2 * (c - i) + 1)) := by
  simp only [slS, highOf, lowOf, show (2 * c + 1) / 2 = c by omega, bnd_nat hj, bnd_nat hi, Option.bind_some, hj, if_true, show ¬ ((2 * c + 1) % 2 = 0) by omega, if_false, hf, rowOf, beq_self_eq_true]
theorem sl_three {b o n c i j m sz : Nat} {q q' q'' : IntKind} (hi : i ≤ j) (hj : j ≤ m) (hm : m ≤ c) :
    slS e sz (.slice (some ⟨b, o, none⟩) n (2 * c + 1)) (some (.int q (i : Int))) (some (.int q' (j : Int))) (some (.int q'' (m : Int))) H = some (.slice (some ⟨b, if m = i then o else o + i * sz, none⟩) (j - i) (2 * (m - i))) := by
  simp only [slS, lowOf, show (2 * c + 1) / 2 = c by omega, bnd_nat hm, bnd_nat hj, bnd_nat hi, Option.bind_some, Option.map_some]

/-! ### Insert -/
theorem Enc.cells_ins (E : Enc α) (l m : List α) (i : Nat) : E.cells (l.take i ++ (m ++ l.drop i)) = E.cells (l.take i) ++ (E.cells m ++ E.cells (l.drop i)) := by
  rw [E.cells_append, E.cells_append]

theorem zeros_all {z : List Value} (h : z.all one = true) : ∀ n, (zeros z n).all one = true
  | 0 => rfl
  | n + 1 => by rw [zeros, List.all_append, h, zeros_all h n]; rfl

theorem insS_own {el : TypeId} {z : List Value} {b o c i bv ov cv : Nat} {xs ys : List Value} {ev : TypeId} {m : List α} (hz : z.length = E.w) (hzo : z.all one = true)
    (hl : l.length ≤ c) (hb : b < H.n) (hf : H.f b = .cells xs el true) (ho : o + c * E.w = xs.length) (hx : (xs.drop o).take (l.length * E.w) = E.cells l)
    (hi : i < l.length) (hm : m ≠ []) (hfv : H.f bv = .cells ys ev true) (hbv : bv ≠ b) (htq : tailQ P ev = 1) (hy : ov + m.length * E.w ≤ ys.length) (hyc : (ys.drop ov).take (m.length * E.w) = E.cells m)
    (h1 : (l.length + m.length) * P.bytesOf el ≤ 140737488355328) (h2 : l.length + m.length ≤ 140737488355328) :
    ∃ v' H', insS P el z [.slice (some ⟨b, o, none⟩) l.length (2 * c + 1), .int .i64 (i : Int), .slice (some ⟨bv, ov, none⟩) m.length cv] H = some (v', H') ∧ Own E H' el v' (l.take i ++ (m ++ l.drop i)) ∧
      Fr (fun x => x = b) H H' ∧ (blockOf v' = some b ∨ blockOf v' = some H.n) := by
  have hw := E.pos
  have hm0 : m.length ≠ 0 := fun h => hm (List.length_eq_zero_iff.1 h)
  have hc2 : (2 * c + 1) / 2 = c := by omega
  have hmul := Nat.mul_le_mul_right E.w hl
  have hmi := Nat.mul_le_mul_right E.w (Nat.le_of_lt hi)
  have hsub : (l.length - i) * E.w = l.length * E.w - i * E.w := Nat.sub_mul ..
  have htail : (xs.drop (o + i * E.w)).take ((l.length - i) * E.w) = E.cells (l.drop i) := by
    rw [← E.cells_drop, ← hx, List.drop_take, List.drop_drop, hsub]
  have hhead : (xs.drop o).take (i * E.w) = E.cells (l.take i) := by
    rw [← E.cells_take, ← hx, List.take_take, Nat.min_eq_left hmi]
  have hxpos : 0 < xs.length := by
    have : 0 < l.length := by omega
    have := Nat.mul_pos this hw
    omega
  have hcond : (2 * c + 1) % 2 = 1 ∧ True ∧ i < l.length ∧ l.length ≤ (2 * c + 1) / 2 ∧ m.length ≠ 0 ∧ (l.length + m.length) * P.bytesOf el ≤ 140737488355328 ∧ l.length + m.length ≤ 140737488355328 ∧ bv ≠ b ∧ tailQ P ev = 1 ∧ o + (2 * c + 1) / 2 * z.length = xs.length ∧
          ov + m.length * z.length ≤ ys.length ∧ 0 < xs.length ∧ ((ys.drop ov).take (m.length * z.length)).all one = true ∧ ((xs.drop (o + i * z.length)).take ((l.length - i) * z.length)).all one = true ∧ (zeros z (l.length + m.length - i)).all one = true := by
    rw [hc2, hz]
    exact ⟨by omega, trivial, hi, hl, hm0, h1, h2, hbv, htq, ho, hy, hxpos, by rw [hyc]; exact E.cells_one m, by rw [htail]; exact E.cells_one _, zeros_all hzo _⟩
  have hval : insS P el z [.slice (some ⟨b, o, none⟩) l.length (2 * c + 1), .int .i64 (i : Int), .slice (some ⟨bv, ov, none⟩) m.length cv] H =
      if l.length + m.length ≤ c then
          some (.slice (some ⟨b, o, none⟩) (l.length + m.length) (2 * c + 1),
            (H.set b (.cells (spl xs (o + (i + m.length) * E.w) (E.cells (l.drop i))) el true)).set b
              (.cells (spl (spl xs (o + (i + m.length) * E.w) (E.cells (l.drop i))) (o + i * E.w) (E.cells m)) el true))
        else some (.slice (some ⟨H.n, 0, none⟩) (l.length + m.length) (2 * (l.length + m.length) + 1),
            (H.set b .dead).push (.cells (E.cells (l.take i) ++ (E.cells m ++ E.cells (l.drop i))) el true)) := by
    show (match H.f b, H.f bv with
      | .cells xs e true, .cells ys ev true => _
      | _, _ => none) = _
    rw [hf, hfv]
    simp only
    rw [if_pos hcond]
    simp only [hc2, hz, htail, hhead, hyc]
  have hlen3 : (l.take i ++ (m ++ l.drop i)).length = l.length + m.length := by simp; omega
  rw [hval]
  by_cases hroom : l.length + m.length ≤ c
  · rw [if_pos hroom]
    have hmulr := Nat.mul_le_mul_right E.w hroom
    rw [Nat.add_mul] at hmulr
    refine ⟨_, _, rfl, ?_, Fr.set (S := fun x => x = b) (Fr.set (Fr.refl H) b _ (fun _ => rfl)) b _ (fun _ => rfl), .inl rfl⟩
    refine .inr (.inr ⟨b, o, c, _, by rw [hlen3], by rw [hlen3]; exact hroom, hb, set_f_eq, by rw [spl_length, spl_length, ho], ?_⟩)
    rw [hlen3, E.cells_ins]
    have hA : i * E.w + m.length * E.w + (l.length - i) * E.w = (l.length + m.length) * E.w := by rw [hsub, Nat.add_mul]; omega
    have hcl : (E.cells (l.drop i)).length = (l.length - i) * E.w := by simp
    have hclm : (E.cells m).length = m.length * E.w := by simp
    have hins := fun j hj => ins_cells (xs := xs) (new := E.cells m) (o := o) (A := i * E.w) (M := m.length * E.w) (T := (l.length - i) * E.w) (by omega) hclm (j := j) hj
    apply List.ext_getElem?
    intro j
    by_cases hj : j < (l.length + m.length) * E.w
    · rw [List.getElem?_take_of_lt hj, List.getElem?_drop]
      have := hins j (by rw [hA]; exact hj)
      rw [htail, hhead] at this
      rw [show o + (i + m.length) * E.w = o + (i * E.w + m.length * E.w) by rw [Nat.add_mul]]
      exact this
    · have hlt : (E.cells (l.take i)).length = i * E.w := by rw [E.cells_len, List.length_take, Nat.min_eq_left (Nat.le_of_lt hi)]
      rw [List.getElem?_eq_none (by simp only [List.length_take]; omega), List.getElem?_eq_none (by rw [List.length_append, List.length_append, hlt, hclm, hcl]; omega)]
  · rw [if_neg hroom]
    refine ⟨_, _, rfl, ?_, Fr.push (Fr.set (S := fun x => x = b) (Fr.refl H) b _ (fun _ => rfl)) _, .inr rfl⟩
    refine .inr (.inr ⟨H.n, 0, l.length + m.length, _, by rw [hlen3], by rw [hlen3]; exact Nat.le_refl _, by simp, push_f_eq rfl, ?_, ?_⟩)
    · rw [List.length_append, List.length_append, E.cells_len, E.cells_len, E.cells_len, List.length_take, List.length_drop, Nat.min_eq_left (Nat.le_of_lt hi), hsub, Nat.add_mul]; omega
    · rw [hlen3, E.cells_ins, List.drop_zero]
      apply List.take_of_length_le
      rw [List.length_append, List.length_append, E.cells_len, E.cells_len, E.cells_len, List.length_take, List.length_drop, Nat.min_eq_left (Nat.le_of_lt hi), hsub, Nat.add_mul]; omega

theorem del_cells {xs z : List Value} {o i : Nat} (hz : z.length = E.w) (hi : i < l.length) (hxl : o + l.length * E.w ≤ xs.length) (hx : (xs.drop o).take (l.length * E.w) = E.cells l) :
    ((spl (spl xs (o + i * E.w) (E.cells (l.drop (i + 1)))) (o + (l.length - 1) * E.w) z).drop o).take ((l.take i ++ l.drop (i + 1)).length * E.w) = E.cells (l.take i ++ l.drop (i + 1)) := by
  have hlen : (l.take i ++ l.drop (i + 1)).length = l.length - 1 := by simp; omega
  have hm1 : (l.length - 1) * E.w = l.length * E.w - E.w := by rw [Nat.sub_mul, Nat.one_mul]
  have hm2 : (l.length - (i + 1)) * E.w = l.length * E.w - (i * E.w + E.w) := by rw [Nat.sub_mul, Nat.add_mul, Nat.one_mul]
  have hm3 : (i + 1) * E.w ≤ l.length * E.w := Nat.mul_le_mul_right _ hi
  rw [Nat.add_mul, Nat.one_mul] at hm3
  have hcl : (E.cells (l.drop (i + 1))).length = l.length * E.w - (i * E.w + E.w) := by rw [E.cells_len, List.length_drop, hm2]
  have hct : (E.cells (l.take i)).length = i * E.w := by rw [E.cells_len, List.length_take, Nat.min_eq_left (Nat.le_of_lt hi)]
  rw [hlen, hm1, E.cells_append]
  apply List.ext_getElem?
  intro j
  by_cases hj : j < l.length * E.w - E.w
  · rw [List.getElem?_take_of_lt hj, List.getElem?_drop, spl_get _ _ _ _ (by rw [spl_length, hz]; omega), if_neg (by omega), spl_get _ _ _ _ (by rw [hcl]; omega), hcl, List.getElem?_append, hct]
    by_cases h1 : j < i * E.w
    · rw [if_neg (by omega), if_pos h1, ← E.cells_take, List.getElem?_take_of_lt h1, ← hx, List.getElem?_take_of_lt (by omega), List.getElem?_drop]
    · rw [if_pos (by omega), if_neg h1, show o + j - (o + i * E.w) = j - i * E.w by omega]
  · rw [List.getElem?_eq_none (by simp only [List.length_take]; omega), List.getElem?_eq_none (by rw [List.length_append, hct, hcl]; omega)]

/-! ### Functions without loops, run as they stand -/
def noLoop : DCode → Bool
  | .seq a b => noLoop a && noLoop b
  | .cond _ _ a b => noLoop a && noLoop b
  | .block _ _ b => noLoop b
  | .loop _ _ => false
  | _ => true

theorem dCode_noLoop {N n : Nat} {call : CallF} : ∀ (c : DCode), noLoop c = true → dCode P N call n c = dCodeI P N call c
  | .skip, _ => rfl
  | .region _ _ _, _ => rfl
  | .seq a b, h => by
    simp only [noLoop, Bool.and_eq_true] at h
    funext T H
    rw [dCode, dCodeI, dCode_noLoop a h.1, dCode_noLoop b h.2]
    rfl
  | .cond keep c a b, h => by
    simp only [noLoop, Bool.and_eq_true] at h
    funext T H
    rw [dCode, dCodeI, dCode_noLoop a h.1, dCode_noLoop b h.2]
    rfl
  | .block keep id b, h => by
    funext T H
    rw [dCode, dCodeI, dCode_noLoop b h]
    rfl
  | .loop _ _, h => by simp [noLoop] at h
  | .exit _, _ => rfl
  | .ret _, _ => rfl
  | .bad _, _ => rfl

theorem dBody_noLoop {hints : Hints} {call : CallF} {n : Nat} {f : FuncId} {args : List Value} (h : noLoop (codeOf P hints f) = true) : dBody P hints call n f args H = dBodyL stdL P hints call limLP f args H := by
  unfold codeOf at h
  unfold dBody dBodyL
  cases hf : P.funcs[f]? with
  | none => rfl
  | some fn =>
    rw [hf] at h
    simp only at h ⊢
    cases hb : fn.body with
    | none => rfl
    | some c =>
      rw [hb] at h
      simp only at h ⊢
      rw [dCodeL_eq, dCode_noLoop _ h]
      congr 1
      funext r
      obtain ⟨x, T, H⟩ := r
      cases x with
      | normal => simp only [endK]; rw [resValsK_eq]; cases resVals P H T _ <;> rfl
      | exit i => rfl
      | ret => simp only [endK]; rw [resValsK_eq]; cases resVals P H T _ <;> rfl

@[go_sem, go_sem ↓] theorem nextK_none {call : CallF} {k : Value → AHeap → Res} : nextK call H none k = none := _root_.id rfl
@[go_sem, go_sem ↓] theorem bareK_none {k : Value → AHeap → Res} : bareK none H k = none := _root_.id rfl
theorem cap_odd {t : TypeId} {b o n c : Nat} : xbuiltin P .cap [t] [.slice (some ⟨b, o, none⟩) n (2 * c + 1)] H = none := by
  show bare (xcap P [t] (.slice (some ⟨b, o, none⟩) n (2 * c + 1))) H = none
  have : xcap P [t] (.slice (some ⟨b, o, none⟩) n (2 * c + 1)) = none := by
    unfold xcap
    simp only
    split
    · rename_i h; cases h
    · rename_i h
      cases h
      rw [if_neg (by omega)]
    · rfl
  rw [this]; rfl

end Go.Proofs.Ytlagijfkkpbbnaa.Eng
