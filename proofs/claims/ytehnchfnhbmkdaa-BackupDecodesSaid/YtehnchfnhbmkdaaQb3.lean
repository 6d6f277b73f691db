/-
  16 texts in one (merge.py): Eng25 Eng26 Eng28 Eng30 Eng31 Eng27 Eng32 A B C D E F G I J.
  Conditions: none. By an AI agent.
-/
import Derived.Test.YtehnchfnhbmkdaaQb2
import Derived.Laws.StructEq
import Derived.ChangeArms
import Derived.DataReads
import Derived.ChangeShapes
import Derived.WideShapes

/-
  The engine, part 25: inserting into, and deleting from, a list of its own.
  Conditions: none. By an AI agent.
-/
namespace Go.Proofs.Ytehnchfnhbmkdaa.Eng
open Go
set_option linter.unusedVariables false
set_option linter.unusedSimpArgs false

variable {P : Program} {α : Type} {E : Enc α} {H H' : AHeap} {v : Value} {l : List α} {e : TypeId}

theorem bnd_nat {y i : Nat} {q : IntKind} (h : i ≤ y) : bnd y (.int q (i : Int)) = some i := by
  unfold bnd
  simp only [Int.toNat_natCast]
  rw [if_pos ⟨by omega, by omega⟩]

theorem sl_lo {b o n c i sz : Nat} {q : IntKind} {xs : List Value} (hf : H.f b = .cells xs e true) (hi : i ≤ n) (hn : n ≤ c) :
    slS e sz (.slice (some ⟨b, o, none⟩) n (2 * c + 1)) (some (.int q (i : Int))) none none H = some (.slice (some ⟨b, o + i * sz, none⟩) (n - i) (2 * (c - i) + 1)) := by
  simp only [slS, highOf, lowOf, bnd_nat hi, show (2 * c + 1) / 2 = c by omega, Option.bind_some, hn, if_true, show ¬ ((2 * c + 1) % 2 = 0) by omega, if_false, hf, rowOf, beq_self_eq_true]
theorem sl_hi {b o n c i sz : Nat} {q : IntKind} {xs : List Value} (hf : H.f b = .cells xs e true) (hi : i ≤ c) :
    slS e sz (.slice (some ⟨b, o, none⟩) n (2 * c + 1)) none (some (.int q (i : Int))) none H = some (.slice (some ⟨b, o, none⟩) i (2 * c + 1)) := by
  simp only [slS, highOf, lowOf, show (2 * c + 1) / 2 = c by omega, bnd_nat hi, Option.bind_some, hi, if_true, show ¬ ((2 * c + 1) % 2 = 0) by omega, if_false, hf, rowOf, beq_self_eq_true]
  simp
theorem sl_lohi {b o n c i j sz : Nat} {q q' : IntKind} {xs : List Value} (hf : H.f b = .cells xs e true) (hi : i ≤ j) (hj : j ≤ c) :
    slS e sz (.slice (some ⟨b, o, none⟩) n (2 * c + 1)) (some (.int q (i : Int))) (some (.int q' (j : Int))) none H = some (.slice (some ⟨b, o + i * sz, none⟩) (j - i) (2 * (c - i) + 1)) := by
  simp only [slS, highOf, lowOf, show (2 * c + 1) / 2 = c by omega, bnd_nat hj, bnd_nat hi, Option.bind_some, hj, if_true, show ¬ ((2 * c + 1) % 2 = 0) by omega, if_false, hf, rowOf, beq_self_eq_true]
theorem sl_three {b o n c i j m sz : Nat} {q q' q'' : IntKind} (hi : i ≤ j) (hj : j ≤ m) (hm : m ≤ c) :
    slS e sz (.slice (some ⟨b, o, none⟩) n (2 * c + 1)) (some (.int q (i : Int))) (some (.int q' (j : Int))) (some (.int q'' (m : Int))) H = some (.slice (some ⟨b, if m = i then o else o + i * sz, none⟩) (j - i) (2 * (m - i))) := by
  simp only [slS, lowOf, show (2 * c + 1) / 2 = c by omega, bnd_nat hm, bnd_nat hj, bnd_nat hi, Option.bind_some, Option.map_some]

/-! ### Insert -/
theorem Enc.cells_ins (E : Enc α) (l m : List α) (i : Nat) : E.cells (l.take i ++ (m ++ l.drop i)) = E.cells (l.take i) ++ (E.cells m ++ E.cells (l.drop i)) := by
  rw [E.cells_append, E.cells_append]

theorem zeros_all {z : List Value} (h : z.all one = true) : ∀ n, (zeros z n).all one = true
  | 0 => rfl
  | n + 1 => by rw [zeros, List.all_append, h, zeros_all h n]; rfl

theorem insS_own {el : TypeId} {z : List Value} {b o c i bv ov cv : Nat} {xs ys : List Value} {ev : TypeId} {m : List α} (hz : z.length = E.w) (hzo : z.all one = true)
    (hl : l.length ≤ c) (hb : b < H.n) (hf : H.f b = .cells xs el true) (ho : o + c * E.w = xs.length) (hx : (xs.drop o).take (l.length * E.w) = E.cells l)
    (hi : i < l.length) (hm : m ≠ []) (hfv : H.f bv = .cells ys ev true) (hbv : bv ≠ b) (htq : tailQ P ev = 1) (hy : ov + m.length * E.w ≤ ys.length) (hyc : (ys.drop ov).take (m.length * E.w) = E.cells m)
    (h1 : (l.length + m.length) * P.bytesOf el ≤ 140737488355328) (h2 : l.length + m.length ≤ 140737488355328) :
    ∃ v' H', insS P el z [.slice (some ⟨b, o, none⟩) l.length (2 * c + 1), .int .i64 (i : Int), .slice (some ⟨bv, ov, none⟩) m.length cv] H = some (v', H') ∧ Own E H' el v' (l.take i ++ (m ++ l.drop i)) ∧
      Fr (fun x => x = b) H H' ∧ (blockOf v' = some b ∨ blockOf v' = some H.n) := by
  have hw := E.pos
  have hm0 : m.length ≠ 0 := fun h => hm (List.length_eq_zero_iff.1 h)
  have hc2 : (2 * c + 1) / 2 = c := by omega
  have hmul := Nat.mul_le_mul_right E.w hl
  have hmi := Nat.mul_le_mul_right E.w (Nat.le_of_lt hi)
  have hsub : (l.length - i) * E.w = l.length * E.w - i * E.w := Nat.sub_mul ..
  have htail : (xs.drop (o + i * E.w)).take ((l.length - i) * E.w) = E.cells (l.drop i) := by
    rw [← E.cells_drop, ← hx, List.drop_take, List.drop_drop, hsub]
  have hhead : (xs.drop o).take (i * E.w) = E.cells (l.take i) := by
    rw [← E.cells_take, ← hx, List.take_take, Nat.min_eq_left hmi]
  have hxpos : 0 < xs.length := by
    have : 0 < l.length := by omega
    have := Nat.mul_pos this hw
    omega
  have hcond : (2 * c + 1) % 2 = 1 ∧ True ∧ i < l.length ∧ l.length ≤ (2 * c + 1) / 2 ∧ m.length ≠ 0 ∧ (l.length + m.length) * P.bytesOf el ≤ 140737488355328 ∧ l.length + m.length ≤ 140737488355328 ∧ bv ≠ b ∧ tailQ P ev = 1 ∧ o + (2 * c + 1) / 2 * z.length = xs.length ∧
          ov + m.length * z.length ≤ ys.length ∧ 0 < xs.length ∧ ((ys.drop ov).take (m.length * z.length)).all one = true ∧ ((xs.drop (o + i * z.length)).take ((l.length - i) * z.length)).all one = true ∧ (zeros z (l.length + m.length - i)).all one = true := by
    rw [hc2, hz]
    exact ⟨by omega, trivial, hi, hl, hm0, h1, h2, hbv, htq, ho, hy, hxpos, by rw [hyc]; exact E.cells_one m, by rw [htail]; exact E.cells_one _, zeros_all hzo _⟩
  have hval : insS P el z [.slice (some ⟨b, o, none⟩) l.length (2 * c + 1), .int .i64 (i : Int), .slice (some ⟨bv, ov, none⟩) m.length cv] H =
      if l.length + m.length ≤ c then
          some (.slice (some ⟨b, o, none⟩) (l.length + m.length) (2 * c + 1),
            (H.set b (.cells (spl xs (o + (i + m.length) * E.w) (E.cells (l.drop i))) el true)).set b
              (.cells (spl (spl xs (o + (i + m.length) * E.w) (E.cells (l.drop i))) (o + i * E.w) (E.cells m)) el true))
        else some (.slice (some ⟨H.n, 0, none⟩) (l.length + m.length) (2 * (l.length + m.length) + 1),
            (H.set b .dead).push (.cells (E.cells (l.take i) ++ (E.cells m ++ E.cells (l.drop i))) el true)) := by
    show (match H.f b, H.f bv with
      | .cells xs e true, .cells ys ev true => _
      | _, _ => none) = _
    rw [hf, hfv]
    simp only
    rw [if_pos hcond]
    simp only [hc2, hz, htail, hhead, hyc]
  have hlen3 : (l.take i ++ (m ++ l.drop i)).length = l.length + m.length := by simp; omega
  rw [hval]
  by_cases hroom : l.length + m.length ≤ c
  · rw [if_pos hroom]
    have hmulr := Nat.mul_le_mul_right E.w hroom
    rw [Nat.add_mul] at hmulr
    refine ⟨_, _, rfl, ?_, Fr.set (S := fun x => x = b) (Fr.set (Fr.refl H) b _ (fun _ => rfl)) b _ (fun _ => rfl), .inl rfl⟩
    refine .inr (.inr ⟨b, o, c, _, by rw [hlen3], by rw [hlen3]; exact hroom, hb, set_f_eq, by rw [spl_length, spl_length, ho], ?_⟩)
    rw [hlen3, E.cells_ins]
    have hA : i * E.w + m.length * E.w + (l.length - i) * E.w = (l.length + m.length) * E.w := by rw [hsub, Nat.add_mul]; omega
    have hcl : (E.cells (l.drop i)).length = (l.length - i) * E.w := by simp
    have hclm : (E.cells m).length = m.length * E.w := by simp
    have hins := fun j hj => ins_cells (xs := xs) (new := E.cells m) (o := o) (A := i * E.w) (M := m.length * E.w) (T := (l.length - i) * E.w) (by omega) hclm (j := j) hj
    apply List.ext_getElem?
    intro j
    by_cases hj : j < (l.length + m.length) * E.w
    · rw [List.getElem?_take_of_lt hj, List.getElem?_drop]
      have := hins j (by rw [hA]; exact hj)
      rw [htail, hhead] at this
      rw [show o + (i + m.length) * E.w = o + (i * E.w + m.length * E.w) by rw [Nat.add_mul]]
      exact this
    · have hlt : (E.cells (l.take i)).length = i * E.w := by rw [E.cells_len, List.length_take, Nat.min_eq_left (Nat.le_of_lt hi)]
      rw [List.getElem?_eq_none (by simp only [List.length_take]; omega), List.getElem?_eq_none (by rw [List.length_append, List.length_append, hlt, hclm, hcl]; omega)]
  · rw [if_neg hroom]
    refine ⟨_, _, rfl, ?_, Fr.push (Fr.set (S := fun x => x = b) (Fr.refl H) b _ (fun _ => rfl)) _, .inr rfl⟩
    refine .inr (.inr ⟨H.n, 0, l.length + m.length, _, by rw [hlen3], by rw [hlen3]; exact Nat.le_refl _, by simp, push_f_eq rfl, ?_, ?_⟩)
    · rw [List.length_append, List.length_append, E.cells_len, E.cells_len, E.cells_len, List.length_take, List.length_drop, Nat.min_eq_left (Nat.le_of_lt hi), hsub, Nat.add_mul]; omega
    · rw [hlen3, E.cells_ins, List.drop_zero]
      apply List.take_of_length_le
      rw [List.length_append, List.length_append, E.cells_len, E.cells_len, E.cells_len, List.length_take, List.length_drop, Nat.min_eq_left (Nat.le_of_lt hi), hsub, Nat.add_mul]; omega

theorem del_cells {xs z : List Value} {o i : Nat} (hz : z.length = E.w) (hi : i < l.length) (hxl : o + l.length * E.w ≤ xs.length) (hx : (xs.drop o).take (l.length * E.w) = E.cells l) :
    ((spl (spl xs (o + i * E.w) (E.cells (l.drop (i + 1)))) (o + (l.length - 1) * E.w) z).drop o).take ((l.take i ++ l.drop (i + 1)).length * E.w) = E.cells (l.take i ++ l.drop (i + 1)) := by
  have hlen : (l.take i ++ l.drop (i + 1)).length = l.length - 1 := by simp; omega
  have hm1 : (l.length - 1) * E.w = l.length * E.w - E.w := by rw [Nat.sub_mul, Nat.one_mul]
  have hm2 : (l.length - (i + 1)) * E.w = l.length * E.w - (i * E.w + E.w) := by rw [Nat.sub_mul, Nat.add_mul, Nat.one_mul]
  have hm3 : (i + 1) * E.w ≤ l.length * E.w := Nat.mul_le_mul_right _ hi
  rw [Nat.add_mul, Nat.one_mul] at hm3
  have hcl : (E.cells (l.drop (i + 1))).length = l.length * E.w - (i * E.w + E.w) := by rw [E.cells_len, List.length_drop, hm2]
  have hct : (E.cells (l.take i)).length = i * E.w := by rw [E.cells_len, List.length_take, Nat.min_eq_left (Nat.le_of_lt hi)]
  rw [hlen, hm1, E.cells_append]
  apply List.ext_getElem?
  intro j
  by_cases hj : j < l.length * E.w - E.w
  · rw [List.getElem?_take_of_lt hj, List.getElem?_drop, spl_get _ _ _ _ (by rw [spl_length, hz]; omega), if_neg (by omega), spl_get _ _ _ _ (by rw [hcl]; omega), hcl, List.getElem?_append, hct]
    by_cases h1 : j < i * E.w
    · rw [if_neg (by omega), if_pos h1, ← E.cells_take, List.getElem?_take_of_lt h1, ← hx, List.getElem?_take_of_lt (by omega), List.getElem?_drop]
    · rw [if_pos (by omega), if_neg h1, show o + j - (o + i * E.w) = j - i * E.w by omega]
  · rw [List.getElem?_eq_none (by simp only [List.length_take]; omega), List.getElem?_eq_none (by rw [List.length_append, hct, hcl]; omega)]

/-! ### Functions without loops, run as they stand -/
def noLoop : DCode → Bool
  | .seq a b => noLoop a && noLoop b
  | .cond _ _ a b => noLoop a && noLoop b
  | .block _ _ b => noLoop b
  | .loop _ _ => false
  | _ => true

theorem dCode_noLoop {N n : Nat} {call : CallF} : ∀ (c : DCode), noLoop c = true → dCode P N call n c = dCodeI P N call c
  | .skip, _ => rfl
  | .region _ _ _, _ => rfl
  | .seq a b, h => by
    simp only [noLoop, Bool.and_eq_true] at h
    funext T H
    rw [dCode, dCodeI, dCode_noLoop a h.1, dCode_noLoop b h.2]
    rfl
  | .cond keep c a b, h => by
    simp only [noLoop, Bool.and_eq_true] at h
    funext T H
    rw [dCode, dCodeI, dCode_noLoop a h.1, dCode_noLoop b h.2]
    rfl
  | .block keep id b, h => by
    funext T H
    rw [dCode, dCodeI, dCode_noLoop b h]
    rfl
  | .loop _ _, h => by simp [noLoop] at h
  | .exit _, _ => rfl
  | .ret _, _ => rfl
  | .bad _, _ => rfl

theorem dBody_noLoop {hints : Hints} {call : CallF} {n : Nat} {f : FuncId} {args : List Value} (h : noLoop (codeOf P hints f) = true) : dBody P hints call n f args H = dBodyL stdL P hints call limLP f args H := by
  unfold codeOf at h
  unfold dBody dBodyL
  cases hf : P.funcs[f]? with
  | none => rfl
  | some fn =>
    rw [hf] at h
    simp only at h ⊢
    cases hb : fn.body with
    | none => rfl
    | some c =>
      rw [hb] at h
      simp only at h ⊢
      rw [dCodeL_eq, dCode_noLoop _ h]
      congr 1
      funext r
      obtain ⟨x, T, H⟩ := r
      cases x with
      | normal => simp only [endK]; rw [resValsK_eq]; cases resVals P H T _ <;> rfl
      | exit i => rfl
      | ret => simp only [endK]; rw [resValsK_eq]; cases resVals P H T _ <;> rfl

@[go_sem, go_sem ↓] theorem nextK_none {call : CallF} {k : Value → AHeap → Res} : nextK call H none k = none := _root_.id rfl
@[go_sem, go_sem ↓] theorem bareK_none {k : Value → AHeap → Res} : bareK none H k = none := _root_.id rfl
theorem cap_odd {t : TypeId} {b o n c : Nat} : xbuiltin P .cap [t] [.slice (some ⟨b, o, none⟩) n (2 * c + 1)] H = none := by
  show bare (xcap P [t] (.slice (some ⟨b, o, none⟩) n (2 * c + 1))) H = none
  have : xcap P [t] (.slice (some ⟨b, o, none⟩) n (2 * c + 1)) = none := by
    unfold xcap
    simp only
    split
    · rename_i h; cases h
    · rename_i h
      cases h
      rw [if_neg (by omega)]
    · rfl
  rw [this]; rfl

end Go.Proofs.Ytehnchfnhbmkdaa.Eng

/-
  The engine, part 26: structs of plain fields, compared.
  Conditions: none. By an AI agent.
-/
namespace Go.Proofs.Ytehnchfnhbmkdaa.Eng
open Go
set_option linter.unusedVariables false
set_option linter.unusedSimpArgs false

variable {P : Program} {H : AHeap}

theorem pv_bind {α β : Type} {P : Program} : ∀ (s : Sem α) (f : α → Sem β), pv P (s.bind f) = (pv P s).bind fun a => pv P (f a)
  | .pure a, f => rfl
  | .program k, f => pv_bind (k P) f
  | .load m a k, f => rfl
  | .store m a v k, f => rfl
  | .new o k, f => rfl
  | .shape r k, f => rfl
  | .freeze a n k, f => rfl
  | .frozen a k, f => rfl
  | .getObj r k, f => rfl
  | .setObj r o k, f => rfl
  | .choose q k, f => rfl
  | .sys c k, f => rfl
  | .mark m k, f => rfl
  | .halt h, f => rfl
theorem pv_bind' {α β : Type} (s : Sem α) (f : α → Sem β) : pv P (s >>= f) = (pv P s).bind fun a => pv P (f a) := pv_bind s f
theorem pv_pure {α : Type} (a : α) : pv P (pure a : Sem α) = some a := rfl
theorem pv_program : pv P program = some P := rfl
theorem pv_ite {α : Type} {c : Prop} [Decidable c] (a b : Sem α) : pv P (if c then a else b) = if c then pv P a else pv P b := by split <;> rfl
theorem pv_und {t : TypeId} {d : TypeDesc} (h : P.underlying t = some d) : pv P (underlying t) = some d := by
  unfold underlying
  simp only [pv_bind', pv_program, Option.bind_some, h]
  rfl

def ceq : Value → Value → Bool
  | .int _ a, .int _ b => decide (a = b)
  | .string a, .string b => decide (bl a = bl b)
  | .bool a, .bool b => a == b
  | _, _ => false

def ceqs : List Value → List Value → Bool
  | [], [] => true
  | a :: x, b :: y => ceq a b && ceqs x y
  | _, _ => false

def fitC (P : Program) (t : TypeId) (v w : Value) : Bool :=
  match P.underlying t, v, w with
  | some (.int _), .int k _, .int k' _ => k == k'
  | some .string, .string _, .string _ => true
  | some .bool, .bool _, .bool _ => true
  | _, _, _ => false

def fits (P : Program) : List Field → Nat → List Value → List Value → Bool
  | [], _, [], [] => true
  | f :: fs, i, a :: x, b :: y => f.name != "_" && f.offset == i && fitC P f.type a b && fits P fs (i + 1) x y
  | _, _, _, _ => false

theorem bytes_beq (a b : ByteArray) : (a == b) = decide (bl a = bl b) := by
  rw [beq_toListBytes, ByteArray.toList_eq, ByteArray.toList_eq, Bool.beq_eq_decide_eq]
  rfl

theorem pv_cell {t : TypeId} {d : Nat} {a b : Value} (h : fitC P t a b = true) : pv P (Op.equalIn (d + 1) t a b) = some (ceq a b) := by
  unfold fitC at h
  split at h
  · rename_i k k1 x k2 y hu
    have hk : k1 = k2 := by simpa using h
    subst hk
    simp only [Op.equalIn, pv_bind', pv_und hu, Option.bind_some, if_true, pv_pure, ceq, Bool.beq_eq_decide_eq]
  · rename_i x y hu
    simp only [Op.equalIn, pv_bind', pv_und hu, Option.bind_some, pv_pure, ceq, bytes_beq]
  · rename_i x y hu
    simp only [Op.equalIn, pv_bind', pv_und hu, Option.bind_some, pv_pure, ceq]
  · cases h

theorem pv_part {t : TypeId} {a b : Value} (h : fitC P t a b = true) {xs : Array Value} {o : Nat} {v : Value} (hx : xs[o]? = some v) : pv P (part t xs o) = some v := by
  have hagg : pv P (isAgg t) = some false := by
    unfold isAgg
    unfold fitC at h
    split at h
    · rename_i hu; simp only [pv_bind', pv_und hu, Option.bind_some]; rfl
    · rename_i hu; simp only [pv_bind', pv_und hu, Option.bind_some]; rfl
    · rename_i hu; simp only [pv_bind', pv_und hu, Option.bind_some]; rfl
    · cases h
  unfold part
  simp only [pv_bind', hagg, Option.bind_some, Bool.false_eq_true, if_false, hx, pv_pure]

theorem pv_eqFields {d : Nat} : ∀ (fs : List Field) (i : Nat) (xs ys : Array Value) (x y : List Value), (∀ j, xs[i + j]? = x[j]?) → (∀ j, ys[i + j]? = y[j]?) → fits P fs i x y = true →
    pv P (Op.eqFields (d + 1) xs ys fs) = some (ceqs x y)
  | [], i, xs, ys, [], [], _, _, _ => rfl
  | f :: fs, i, xs, ys, a :: x, b :: y, hx, hy, h => by
    simp only [fits, Bool.and_eq_true, bne_iff_ne, ne_eq, beq_iff_eq] at h
    obtain ⟨⟨⟨h1, h2⟩, h3⟩, h4⟩ := h
    have ha : xs[i]? = some a := by simpa using hx 0
    have hb : ys[i]? = some b := by simpa using hy 0
    have ih := pv_eqFields (d := d) fs (i + 1) xs ys x y (fun j => by rw [show i + 1 + j = i + (j + 1) by omega, hx]; rfl) (fun j => by rw [show i + 1 + j = i + (j + 1) by omega, hy]; rfl) h4
    rw [Op.eqFields]
    simp only [ne_eq, h1, not_false_eq_true, if_true, pv_bind', h2, pv_part h3 ha, pv_part h3 hb, Option.bind_some, pv_cell h3, pv_ite, pv_pure, ih, ceqs]
    cases ceq a b <;> simp
  | [], _, _, _, _ :: _, _, _, _, h => by simp [fits] at h
  | [], _, _, _, [], _ :: _, _, _, h => by simp [fits] at h
  | _ :: _, _, _, _, [], _, _, _, h => by simp [fits] at h
  | _ :: _, _, _, _, _ :: _, [], _, _, h => by simp [fits] at h

theorem pv_equalIn_struct {d : Nat} {t : TypeId} {fs : Array Field} (xs ys : Array Value) (ht : P.underlying t = some (.struct fs)) (hp : P.stoodInHeld t = false) :
    pv P (Op.equalIn (d + 1) t (.agg xs) (.agg ys)) = pv P (Op.eqFields d xs ys fs.toList) := by
  simp only [Op.equalIn, pv_bind', pv_und ht, pv_program, Option.bind_some, hp, Bool.false_eq_true, if_false]
  rw [← Array.forIn_toList]
  generalize fs.toList = l
  clear ht
  induction l with
  | nil => simp [Op.eqFields, pv_pure]
  | cons f l ih =>
    simp only [List.forIn_cons, Op.eqFields, pv_bind', pv_ite]
    split
    · cases pv P (part f.type xs f.offset) with
      | none => rfl
      | some a =>
        simp only [Option.bind_some]
        cases pv P (part f.type ys f.offset) with
        | none => rfl
        | some b =>
          simp only [Option.bind_some]
          cases pv P (Op.equalIn d f.type a b) with
          | none => rfl
          | some r =>
            cases r
            · simp [pv_pure]
            · simp only [Option.bind_some, Bool.not_true, Bool.false_eq_true, if_false, pv_pure]
              exact ih
    · simp only [pv_pure, Option.bind_some]
      exact ih

theorem pv_equal {t : TypeId} {fs : Array Field} {xs ys : List Value} (ht : P.underlying t = some (.struct fs)) (hp : P.stoodInHeld t = false) (hf : fits P fs.toList 0 xs ys = true) :
    pv P (Op.equal t (.agg ⟨xs⟩) (.agg ⟨ys⟩)) = some (ceqs xs ys) := by
  have h := pv_equalIn_struct (P := P) (d := 9999) (t := t) ⟨xs⟩ ⟨ys⟩ ht hp
  have h2 := pv_eqFields (P := P) (d := 9998) fs.toList 0 ⟨xs⟩ ⟨ys⟩ xs ys (fun j => by simp) (fun j => by simp) hf
  exact h.trans h2

theorem agg_eq {t : TypeId} {fs : Array Field} {xs ys : List Value} {ox oy : Operand} (ht : P.underlying t = some (.struct fs)) (hp : P.stoodInHeld t = false) (hg : P.eqGuardType P.depth t = false) (hf : fits P fs.toList 0 xs ys = true)
    (g1 : gr 9 (.agg ⟨xs⟩) = true) (g2 : gr 9 (.agg ⟨ys⟩) = true) : xbin P .eql t ox oy (.agg ⟨xs⟩) (.agg ⟨ys⟩) = some (.bool (ceqs xs ys)) := by
  have e : xbin P .eql t ox oy (.agg ⟨xs⟩) (.agg ⟨ys⟩) = if gr 9 (.agg ⟨xs⟩) && gr 9 (.agg ⟨ys⟩) then pvg P (do eqGuard .eql t ox oy (.agg ⟨xs⟩) (.agg ⟨ys⟩); binOp .eql t (.agg ⟨xs⟩) (.agg ⟨ys⟩)) else (nilTest P t (.agg ⟨xs⟩) (.agg ⟨ys⟩)).map .bool := rfl
  rw [e, g1, g2]
  simp only [Bool.and_self, if_true]
  refine pvg_some ?_ rfl
  simp only [eqGuard, binOp, pv_bind', pv_program, Option.bind_some, hg, Bool.not_false, if_true, pv_pure, Bool.not_true, Bool.false_eq_true, if_false, pv_equal ht hp hf]
theorem agg_ne {t : TypeId} {fs : Array Field} {xs ys : List Value} {ox oy : Operand} (ht : P.underlying t = some (.struct fs)) (hp : P.stoodInHeld t = false) (hg : P.eqGuardType P.depth t = false) (hf : fits P fs.toList 0 xs ys = true)
    (g1 : gr 9 (.agg ⟨xs⟩) = true) (g2 : gr 9 (.agg ⟨ys⟩) = true) : xbin P .neq t ox oy (.agg ⟨xs⟩) (.agg ⟨ys⟩) = some (.bool (!ceqs xs ys)) := by
  have e : xbin P .neq t ox oy (.agg ⟨xs⟩) (.agg ⟨ys⟩) = if gr 9 (.agg ⟨xs⟩) && gr 9 (.agg ⟨ys⟩) then pvg P (do eqGuard .neq t ox oy (.agg ⟨xs⟩) (.agg ⟨ys⟩); binOp .neq t (.agg ⟨xs⟩) (.agg ⟨ys⟩)) else (nilTest P t (.agg ⟨xs⟩) (.agg ⟨ys⟩)).map fun b => .bool !b := rfl
  rw [e, g1, g2]
  simp only [Bool.and_self, if_true]
  refine pvg_some ?_ rfl
  simp only [eqGuard, binOp, pv_bind', pv_program, Option.bind_some, hg, Bool.not_false, if_true, pv_pure, Bool.not_true, Bool.false_eq_true, if_false, pv_equal ht hp hf]

/-! ### With fuel again: for what the kernel can reckon -/
def finLP (n : Nat) : LoopH := fun body keep T H k => dLoopK body keep n T H k

theorem dCodeL_fin {P : Program} {N n : Nat} {call : CallF} : ∀ (c : DCode), PieceK (dCode P N call n c) (dCodeL stdL P N call (finLP n) c)
  | .skip => fun _ _ _ => rfl
  | .region id ops draw => fun T H k => dCodeK_eq (P := P) (N := N) (call := call) (n := n) (.region id ops draw) T H k
  | .seq a b => fun T H k => by
    rw [dCodeL, dCode, dCodeL_fin a]
    cases dCode P N call n a T H with
    | none => rfl
    | some r =>
      obtain ⟨e, T', H'⟩ := r
      cases e with
      | normal => simp only [Option.bind_some, seqK]; exact dCodeL_fin b T' H' k
      | exit i => rfl
      | ret => rfl
  | .cond keep c x y => fun T H k => by
    rw [dCodeL, dCode, stdL_c]
    unfold condL
    cases ev T c with
    | bool b =>
      cases b with
      | true =>
        have hx := dCodeL_fin (P := P) (N := N) (call := call) (n := n) x T H (afterK keep k)
        simp only [if_true]
        rw [hx]
        cases dCode P N call n x T H with
        | none => rfl
        | some r => obtain ⟨e, T', H'⟩ := r; cases e <;> rfl
      | false =>
        have hy := dCodeL_fin (P := P) (N := N) (call := call) (n := n) y T H (afterK keep k)
        simp only [Bool.false_eq_true, if_false]
        rw [hy]
        cases dCode P N call n y T H with
        | none => rfl
        | some r => obtain ⟨e, T', H'⟩ := r; cases e <;> rfl
    | _ => rfl
  | .block keep id b => fun T H k => by
    rw [dCodeL, dCode, stdL_s]
    unfold shareL
    dsimp only
    rw [dCodeL_fin b]
    cases dCode P N call n b T H with
    | none => rfl
    | some r =>
      obtain ⟨e, T', H'⟩ := r
      cases e with
      | normal => rfl
      | exit j => simp only [Option.bind_some, Option.map_some, blkK]; split <;> rfl
      | ret => rfl
  | .loop keep b => fun T H k => by
    rw [dCodeL, dCode]
    exact dLoopK_eq (dCodeL_fin b) keep n T H k
  | .exit id => fun _ _ _ => rfl
  | .ret keep => fun _ _ _ => rfl
  | .bad c => fun _ _ _ => rfl

theorem dBody_fin {hints : Hints} {call : CallF} {n : Nat} {f : FuncId} {args : List Value} : dBody P hints call n f args H = dBodyL stdL P hints call (finLP n) f args H := by
  unfold dBody dBodyL
  cases hf : P.funcs[f]? with
  | none => rfl
  | some fn =>
    simp only
    cases hb : fn.body with
    | none => rfl
    | some c =>
      simp only
      rw [dCodeL_fin]
      congr 1
      funext r
      obtain ⟨x, T, H⟩ := r
      cases x with
      | normal => simp only [endK]; rw [resValsK_eq]; cases resVals P H T _ <;> rfl
      | exit i => rfl
      | ret => simp only [endK]; rw [resValsK_eq]; cases resVals P H T _ <;> rfl

/-- A law's run, by the value alone. -/
theorem run_fst {prims : Prims} {hints : Hints} {n : Nat} {f : FuncId} {args : List Value} (hp : prims f = none) (h : (dBodyL stdL P hints (dCall P prims hints n) (finLP n) f args H).map (·.1) = some (.bool true)) :
    ∃ k H', dCall P prims hints k f args H = some (.bool true, H') := by
  refine ⟨n + 1, ?_⟩
  have e : dCall P prims hints (n + 1) f args H = (dBody P hints (dCall P prims hints n) n f args H).map (tidy H) := by simp only [dCall, hp]
  rw [e, dBody_fin]
  cases hq : dBodyL stdL P hints (dCall P prims hints n) (finLP n) f args H with
  | none => rw [hq] at h; cases h
  | some r =>
    rw [hq] at h
    obtain ⟨v, H1⟩ := r
    simp at h
    subst h
    simp only [Option.map_some, tidy]
    split <;> exact ⟨_, rfl⟩

end Go.Proofs.Ytehnchfnhbmkdaa.Eng

/-
  A call that is reckoned with some fuel is one without fuel.
  Conditions: none. By an AI agent.
-/
set_option linter.all false
namespace Go.Proofs.Ytehnchfnhbmkdaa.Eng
open Go
theorem dLoop_body {body body' : Env → AHeap → DRes} (hb : ∀ T H r, body T H = some r → body' T H = some r) {keep : List Nat} : ∀ {m : Nat} {T : Env} {H : AHeap} {r : DExit × Env × AHeap}, dLoop body keep m T H = some r → dLoop body' keep m T H = some r
  | 0, _, _, _, h => by simp [dLoop] at h
  | m + 1, T, H, r, h => by
    rw [dLoop] at h ⊢
    cases hx : body (clr keep T) H with
    | none => rw [hx] at h; cases h
    | some x =>
      rw [hx] at h
      rw [hb _ _ _ hx]
      obtain ⟨e, T', H'⟩ := x
      cases e with
      | normal => exact dLoop_body hb h
      | exit i => exact h
      | ret => exact h

theorem code_fin {P : Program} {N m : Nat} {C : CallF} : ∀ (x : DCode) {T : Env} {H : AHeap} {r : DExit × Env × AHeap}, dCode P N C m x T H = some r → dCodeI P N C x T H = some r
  | .skip, _, _, _, h => h
  | .region id ops draw, T, H, r, h => h
  | .seq a b, T, H, r, h => by
    rw [dCode] at h
    obtain ⟨y, h1, h2⟩ := Option.bind_eq_some_iff.1 h
    rw [dCodeI, code_fin a h1]
    obtain ⟨e, T', H'⟩ := y
    cases e with
    | normal => exact code_fin b h2
    | exit j => exact h2
    | ret => exact h2
  | .cond keep q a b, T, H, r, h => by
    rw [dCode] at h
    rw [dCodeI]
    split at h
    · rename_i v hv
      obtain ⟨y, h1, h2⟩ := Option.map_eq_some_iff.1 h
      have key : (if v then dCodeI P N C a T H else dCodeI P N C b T H) = some y := by
        cases v with
        | true => simp only [if_true] at h1 ⊢; exact code_fin a h1
        | false => simp only [Bool.false_eq_true, if_false] at h1 ⊢; exact code_fin b h1
      rw [hv]
      simp only
      rw [key]
      exact congrArg some h2
    · cases h
  | .block keep id b, T, H, r, h => by
    rw [dCode] at h
    obtain ⟨y, h1, h2⟩ := Option.map_eq_some_iff.1 h
    rw [dCodeI, code_fin b h1]
    exact congrArg some h2
  | .loop keep b, T, H, r, h => by
    rw [dCode] at h
    rw [dCodeI, loopI_some]
    exact ⟨m, dLoop_body (fun T H r h => code_fin b h) h⟩
  | .exit id, _, _, _, h => h
  | .ret keep, _, _, _, h => h
  | .bad _, _, _, _, h => by simp [dCode] at h

theorem dCall_evt {P : Program} {prims : Prims} {hints : Hints} : ∀ (n : Nat), CApx (dCall P prims hints n) (dCall P prims hints)
  | 0 => fun f args H r h => by simp [dCall] at h
  | n + 1 => fun f args H r h => by
    cases hp : prims f with
    | some p =>
      simp only [dCall, hp] at h
      exact lim_some.1 (D_prim hp h)
    | none =>
      simp only [dCall, hp] at h
      obtain ⟨y, h1, rfl⟩ := Option.map_eq_some_iff.1 h
      have key : Evt (fun n => dBody P hints (dCall P prims hints n) n f args H) y := by
        unfold dBody at h1 ⊢
        cases hf : P.funcs[f]? with
        | none => rw [hf] at h1; cases h1
        | some fn =>
          rw [hf] at h1
          simp only at h1 ⊢
          cases hb : fn.body with
          | none => rw [hb] at h1; cases h1
          | some c =>
            rw [hb] at h1
            simp only at h1 ⊢
            obtain ⟨x, h2, h3⟩ := Option.bind_eq_some_iff.1 h1
            exact Evt.bind (code_apx (dCall_evt n) _ (code_fin _ h2)) (Evt.of_eq h3)
      obtain ⟨m, hm⟩ := key
      dsimp only at hm
      refine Evt.succ ⟨m, fun i hi => ?_⟩
      simp only [dCall, hp]
      rw [hm i hi]
      rfl

/-- What is reckoned with fuel is so. -/
theorem D_of {P : Program} {prims : Prims} {hints : Hints} {n : Nat} {f : FuncId} {args : List Value} {H : AHeap} {r : Value × AHeap} (h : dCall P prims hints n f args H = some r) :
    D P prims hints f args H = some r := lim_some.2 (dCall_evt n f args H r h)
/-- The same where only the value is told: a call that answers a bare value and leaves what was there. -/
theorem D_ofv {P : Program} {prims : Prims} {hints : Hints} {n : Nat} {f : FuncId} {args : List Value} {H : AHeap} {v : Value} (h : ((dCall P prims hints n f args H).map fun r => (r.1, gr 9 r.1 && still H r.2)) = some (v, true)) (hp : prims f = none) :
    D P prims hints f args H = some (v, H) := by
  cases n with
  | zero => simp [dCall] at h
  | succ n =>
    obtain ⟨r, h1, h2⟩ := Option.map_eq_some_iff.1 h
    have h0 := h1
    simp only [dCall, hp] at h1
    obtain ⟨y, h3, h4⟩ := Option.map_eq_some_iff.1 h1
    rw [D_of h0]
    obtain ⟨v1, H1⟩ := r
    simp only [Prod.mk.injEq] at h2
    obtain ⟨rfl, h2⟩ := h2
    obtain ⟨v2, H2⟩ := y
    unfold tidy at h4
    split at h4
    · simp only [Prod.mk.injEq] at h4; obtain ⟨rfl, rfl⟩ := h4; rfl
    · rename_i hn
      simp only [Prod.mk.injEq] at h4
      obtain ⟨rfl, rfl⟩ := h4
      exact absurd h2 hn

/-- A call's answer, whatever becomes of the heap. -/
theorem any_of {X : Res} {H H1 : AHeap} {v : Value} (h : X = some (tidy H (v, H1))) : ∃ H', X = some (v, H') := by
  unfold tidy at h
  split at h
  · exact ⟨_, h⟩
  · exact ⟨_, h⟩

end Go.Proofs.Ytehnchfnhbmkdaa.Eng

/-
  The engine, part 30: more numbers: quotients, remainders, shifts, bits; bytes: rows of them, and strings out of them.
  Conditions: none. By an AI agent.
-/
namespace Go.Proofs.Ytehnchfnhbmkdaa.Eng
open Go
set_option linter.unusedVariables false
set_option linter.unusedSimpArgs false

variable {P : Program} {H H' : AHeap}

theorem tdiv_pos {a b : Int} (h0 : 0 ≤ a) (h : 0 < b) : a.tdiv b = a / b := Int.tdiv_eq_ediv_of_nonneg h0
theorem tmod_pos {a b : Int} (h0 : 0 ≤ a) : a.tmod b = a % b := Int.tmod_eq_emod_of_nonneg h0

@[go_sem] theorem remP {t : TypeId} {ox oy : Operand} {q : IntKind} {a b : Int} (h0 : 0 ≤ a) (h : 0 < b) : xbin P .rem t ox oy (.int q a) (.int q b) = some (.int q (a % b)) := by
  have hb : b ≠ 0 := by omega
  refine xbin_gr ?_ rfl
  simp [eqGuard, binOp, Op.intDiv, Bind.bind, Sem.bind, Pure.pure, pv, hb, tmod_pos h0]
@[go_sem] theorem quoP {t : TypeId} {ox oy : Operand} {q : IntKind} {a b : Int} (h0 : 0 ≤ a) (h : 0 < b) : xbin P .quo t ox oy (.int q a) (.int q b) = some (.int q (q.wrap (a / b))) := by
  have hb : b ≠ 0 := by omega
  refine xbin_gr ?_ rfl
  simp [eqGuard, binOp, Op.intDiv, Bind.bind, Sem.bind, Pure.pure, pv, hb, tdiv_pos h0 h]
theorem quoI {t : TypeId} {ox oy : Operand} {a b : Int} (h0 : 0 ≤ a) (h : 0 < b) (h1 : a < 9223372036854775808) : xbin P .quo t ox oy (.int .i64 a) (.int .i64 b) = some (.int .i64 (a / b)) := by
  rw [quoP h0 h, wrap_i64]
  have : a / b ≤ a := Int.ediv_le_self b h0
  have : 0 ≤ a / b := Int.ediv_nonneg h0 (by omega)
  omega

theorem shlP {t : TypeId} {ox oy : Operand} {q q' : IntKind} {a b : Int} (h : 0 ≤ b ∧ b < q.bits) : xbin P .shl t ox oy (.int q a) (.int q' b) = some (.int q (q.wrap (a * 2 ^ b.toNat))) := by
  refine xbin_gr ?_ rfl
  have hb : ¬ b < 0 := by omega
  have hm : min b.toNat q.bits = b.toNat := by omega
  simp [eqGuard, binOp, Op.shift, Bind.bind, Sem.bind, Pure.pure, pv, hb, hm]
theorem shrP {t : TypeId} {ox oy : Operand} {q q' : IntKind} {a b : Int} (h : 0 ≤ b ∧ b < q.bits) : xbin P .shr t ox oy (.int q a) (.int q' b) = some (.int q (a / 2 ^ b.toNat)) := by
  refine xbin_gr ?_ rfl
  have hb : ¬ b < 0 := by omega
  have hm : min b.toNat q.bits = b.toNat := by omega
  simp [eqGuard, binOp, Op.shift, Bind.bind, Sem.bind, Pure.pure, pv, hb, hm]
  rw [Int.fdiv_eq_ediv_of_nonneg]
  exact Int.pow_nonneg (by decide)
theorem orU {t : TypeId} {ox oy : Operand} {q : IntKind} {a b : Nat} (ha : a < 2 ^ q.bits) (hb : b < 2 ^ q.bits) : xbin P .or t ox oy (.int q (a : Int)) (.int q (b : Int)) = some (.int q (q.wrap ((a ||| b : Nat) : Int))) := by
  refine xbin_gr ?_ rfl
  simp [eqGuard, binOp, Bind.bind, Sem.bind, Pure.pure, pv, Op.intBits, Nat.mod_eq_of_lt ha, Nat.mod_eq_of_lt hb]
theorem or_add {a b k : Nat} (hb : b < 2 ^ k) : a * 2 ^ k ||| b = a * 2 ^ k + b := by
  rw [← Nat.shiftLeft_eq, ← Nat.shiftLeft_add_eq_or_of_lt hb]

theorem mulN {t : TypeId} {ox oy : Operand} {a b : Nat} (h : a * b < 9223372036854775808) : xbin P .mul t ox oy (.int .i64 (a : Int)) (.int .i64 (b : Int)) = some (.int .i64 ((a * b : Nat) : Int)) := by
  rw [mul_i64 (by rw [← Int.natCast_mul]; omega), Int.natCast_mul]
theorem quoN {t : TypeId} {ox oy : Operand} {a b : Nat} (hb : 0 < b) (h : a < 9223372036854775808) : xbin P .quo t ox oy (.int .i64 (a : Int)) (.int .i64 (b : Int)) = some (.int .i64 ((a / b : Nat) : Int)) := by
  rw [quoI (by omega) (by omega) (by omega), Int.natCast_ediv]
theorem remN {t : TypeId} {ox oy : Operand} {q : IntKind} {a b : Nat} (hb : 0 < b) : xbin P .rem t ox oy (.int q (a : Int)) (.int q (b : Int)) = some (.int q ((a % b : Nat) : Int)) := by
  rw [remP (by omega) (by omega), Int.natCast_emod]
theorem minN {ts : List TypeId} {q : IntKind} {a b : Nat} : xbuiltin P .min ts [.int q (a : Int), .int q (b : Int)] H = some (.val (.int q ((min a b : Nat) : Int)) H) := by
  rw [min_int]; congr 3; omega
theorem maxN {ts : List TypeId} {q : IntKind} {a b : Nat} : xbuiltin P .max ts [.int q (a : Int), .int q (b : Int)] H = some (.val (.int q ((max a b : Nat) : Int)) H) := by
  rw [max_int]; congr 3; omega

/-! ### Bytes -/
def EB : Enc UInt8 := ⟨1, fun b => [byteCell b], fun _ => rfl, by decide, fun _ => rfl⟩
theorem EB_cells (l : List UInt8) : EB.cells l = l.map byteCell := by
  induction l with
  | nil => rfl
  | cons a l ih => rw [Enc.cells_cons, ih]; rfl
theorem u8_back (b : UInt8) : UInt8.ofNat ((b.toNat : Int)).toNat = b := by simp
theorem bytesOf_cells : ∀ (l : List UInt8), bytesOf (EB.cells l) = some l
  | [] => rfl
  | a :: l => by
    have : EB.cells (a :: l) = byteCell a :: EB.cells l := rfl
    rw [this]
    unfold byteCell bytesOf
    rw [bytesOf_cells l]
    simp

/-- string(b). -/
theorem conv_bs {t s e : TypeId} (ht : P.underlying t = some (.slice e)) (he : P.underlying e = some (.int .u8)) (hs : P.underlying s = some .string) {v : Value} {l : List UInt8} (hr : Rd EB H v l) : xconv P t s v H = some (.string (mk l), H) := by
  rcases hr with ⟨rfl, rfl⟩ | ⟨rfl, ⟨b, o, sp⟩, k, rfl, hsp⟩ | ⟨b, o, c, rfl, hl, hb, hc⟩
  · have h : pv P (convert t s (.slice none 0 0)) = some (.string .empty) := by
      simp only [convert, pv_bind', pv_und ht, pv_und hs, Option.bind_some, pv_und he]
      rfl
    have h2 : pvg P (convert t s (.slice none 0 0)) = some (.string .empty) := pvg_some h rfl
    unfold xconv
    rw [ht, hs]
    simp only [h2, Option.map_some]
    rfl
  · simp only at hsp
    subst hsp
    unfold xconv
    rw [ht, hs]
    simp only [he, if_true]
    rfl
  · have h0 : l.length ≠ 0 := fun h => hl (List.length_eq_zero_iff.1 h)
    unfold xconv
    rw [ht, hs]
    have hw : EB.w = 1 := rfl
    rw [hw, Nat.mul_one] at hc
    simp only [he, h0, if_false, cut_b, hc, Option.bind_some, bytesOf_cells, Option.map_some]

theorem Rd.byte {v : Value} {l : List UInt8} (hr : Rd EB H v l) {i : Nat} (hi : i < l.length) : ∃ b o, ixS 1 v (.int .i64 (i : Int)) = some (.pointer (some ⟨b, o, none⟩)) ∧ cellB (H.f b) o = some (.int .u8 (l[i].toNat : Int)) ∧ b < H.n ∧ blockOf v = some b := by
  obtain ⟨b, o, h1, h2, h3, h4⟩ := hr.ix (q := .i64) hi
  exact ⟨b, o, h1, cutB_cell h3 (i := 0) (by decide), h2, h4⟩
theorem u8_lt (c : UInt8) : (0 : Int) ≤ (c.toNat : Int) ∧ (c.toNat : Int) < 256 := ⟨by omega, by have := c.toNat_lt; omega⟩
@[go_sem] theorem add_u32 {t : TypeId} {ox oy : Operand} {a b : Int} (h : 0 ≤ a + b ∧ a + b < 4294967296) : xbin P .add t ox oy (.int .u32 a) (.int .u32 b) = some (.int .u32 (a + b)) := by
  rw [xbin_add, wrap_u32 h]
theorem wrapU8 {n : Int} : IntKind.wrap .u8 n = n % 256 := by
  unfold IntKind.wrap
  simp only [IntKind.bits, IntKind.signed, Bool.false_and]
  simp
theorem shl32 {t : TypeId} {ox oy : Operand} {q' : IntKind} {a b : Int} (h : 0 ≤ b ∧ b < 32) (h0 : 0 ≤ a) (h1 : a * 2 ^ b.toNat < 4294967296) : xbin P .shl t ox oy (.int .u32 a) (.int q' b) = some (.int .u32 (a * 2 ^ b.toNat)) := by
  rw [shlP (by simpa [IntKind.bits] using h), wrap_u32]
  refine ⟨Int.mul_nonneg h0 (Int.le_of_lt (Int.pow_pos (by decide))), h1⟩
theorem or32 {t : TypeId} {ox oy : Operand} {k : Nat} {a b : Int} (ha : 0 ≤ a) (hb : 0 ≤ b ∧ b < 2 ^ k) (h : a * 2 ^ k + b < 4294967296) : xbin P .or t ox oy (.int .u32 (a * 2 ^ k)) (.int .u32 b) = some (.int .u32 (a * 2 ^ k + b)) := by
  obtain ⟨m, rfl⟩ : ∃ m : Nat, a = (m : Int) := ⟨a.toNat, by omega⟩
  obtain ⟨n, rfl⟩ : ∃ n : Nat, b = (n : Int) := ⟨b.toNat, by omega⟩
  have e : ((m : Int) * 2 ^ k) = ((m * 2 ^ k : Nat) : Int) := by simp
  have hn : n < 2 ^ k := by have := hb.2; exact_mod_cast this
  rw [e] at h ⊢
  have h2 : m * 2 ^ k + n < 4294967296 := by rw [← Int.natCast_add] at h; omega
  have q1 : m * 2 ^ k < 2 ^ IntKind.u32.bits := by show _ < 4294967296; omega
  have q2 : n < 2 ^ IntKind.u32.bits := by show _ < 4294967296; omega
  clear h
  rw [orU q1 q2, or_add hn, wrap_u32 ⟨by omega, by omega⟩]
  rw [Int.natCast_add]

/-! ### Slices of which parts may be taken -/
variable {α : Type} {E : Enc α} {e : TypeId}

/-- Its capacity is known to be no less than its length; and if the capacity is not known, its row is of its kind. -/
def SlOk (e : TypeId) (H : AHeap) (v : Value) : Prop :=
  v = .slice none 0 0 ∨ ∃ b o n code, v = .slice (some ⟨b, o, none⟩) n code ∧ n ≤ code / 2 ∧ (code % 2 = 0 ∨ rowOf e (H.f b) = true) ∧ b < H.n

def RdS (E : Enc α) (e : TypeId) (H : AHeap) (v : Value) (l : List α) : Prop := Rd E H v l ∧ SlOk e H v

theorem SlOk.keep {S : Nat → Prop} {v : Value} (r : SlOk e H v) (h : Fr S H H') (hs : Off S v) : SlOk e H' v := by
  rcases r with r | ⟨b, o, n, code, rfl, h1, h2, h3⟩
  · exact .inl r
  · refine .inr ⟨b, o, n, code, rfl, h1, ?_, Nat.lt_of_lt_of_le h3 h.n⟩
    rw [h.f h3 (hs b rfl)]
    exact h2
theorem RdS.keep {S : Nat → Prop} {v : Value} {l : List α} (r : RdS E e H v l) (h : Fr S H H') (hs : Off S v) : RdS E e H' v l := ⟨r.1.keep h hs, r.2.keep h hs⟩
theorem RdS.still {v : Value} {l : List α} (r : RdS E e H v l) (h : Still H H') : RdS E e H' v l := r.keep h fun _ _ h => h
theorem Own.sl {v : Value} {l : List α} (r : Own E H e v l) : RdS E e H v l := by
  refine ⟨r.rd, ?_⟩
  rcases r with ⟨_, rfl⟩ | ⟨hl, ⟨b, o, s⟩, rfl, hs, hb⟩ | ⟨b, o, c, xs, rfl, hl, hb, hf, ho, hx⟩
  · exact .inl rfl
  · simp only at hs
    subst hs
    exact .inr ⟨b, o, 0, 0, rfl, Nat.le_refl _, .inl rfl, hb⟩
  · exact .inr ⟨b, o, _, _, rfl, by omega, .inr (by rw [hf]; simp [rowOf]), hb⟩
theorem RdS.one {v : Value} {l : List α} (r : RdS E e H v l) : Eng.one v = true := by
  obtain ⟨a, c, rfl⟩ := r.1.shape; rfl
theorem RdS.nil : RdS E e H (.slice none 0 0) [] := ⟨.inl ⟨rfl, rfl⟩, .inl rfl⟩

/-- A part of it. -/
theorem RdS.part {v : Value} {l : List α} (r : RdS E e H v l) {sz : Nat} (hsz : sz = E.w) {i j : Nat} (hi : i ≤ j) (hj : j ≤ l.length) (lo hi' : Option Value) (hlo : lowOf j lo = some i) (hhi : ∀ y, l.length ≤ y → highOf y l.length hi' = some j) :
    ∃ v', slS e sz v lo hi' none H = some v' ∧ RdS E e H v' ((l.drop i).take (j - i)) ∧ (blockOf v' = blockOf v) := by
  subst hsz
  obtain ⟨r, k⟩ := r
  rcases k with rfl | ⟨b, o, n, code, rfl, hn, hcode, hb⟩
  · obtain ⟨a, c, hs⟩ := r.shape
    have h0 : l.length = 0 := by injection hs with _ h _; exact h.symm
    have hl : l = [] := List.length_eq_zero_iff.1 h0
    subst hl
    have hj0 : j = 0 := by simpa using hj
    have hi0 : i = 0 := by omega
    subst hj0; subst hi0
    refine ⟨.slice none 0 0, ?_, ⟨.inl ⟨by simp, rfl⟩, .inl rfl⟩, rfl⟩
    have hh := hhi 0 (by simp)
    simp only [List.length_nil] at hh
    simp only [slS, hh, Option.bind_some, hlo, Option.map_some]
  · obtain ⟨a, c, hs⟩ := r.shape
    have hnl : n = l.length := by injection hs
    subst hnl
    have hh := hhi (code / 2) hn
    have hjc : j ≤ code / 2 := by omega
    have hblk : ∀ (x : Nat), SlOk e H (.slice (some ⟨b, x, none⟩) (j - i) (2 * (code / 2 - i) + code % 2)) := fun x => by
      refine .inr ⟨b, x, _, _, rfl, ?_, ?_, hb⟩
      · have : code % 2 < 2 := Nat.mod_lt _ (by omega)
        omega
      · rcases hcode with h | h
        · left; omega
        · exact .inr h
    have hrd : j - i ≠ 0 → Rd E H (.slice (some ⟨b, o + i * E.w, none⟩) (j - i) (2 * (code / 2 - i) + code % 2)) ((l.drop i).take (j - i)) := fun h0 => by
      have hlen : ((l.drop i).take (j - i)).length = j - i := by simp; omega
      rcases r with ⟨h, _⟩ | ⟨h, _⟩ | ⟨b', o', c', hv, hl, hb', hc⟩
      · subst h; simp at hj; omega
      · subst h; simp at hj; omega
      · cases hv
        refine .inr (.inr ⟨b, o + i * E.w, _, by rw [hlen], fun h => by rw [h] at hlen; simp at hlen; omega, hb, ?_⟩)
        rw [hlen, cutB_sub hc (i := i * E.w) (m := (j - i) * E.w) (by rw [← Nat.add_mul]; exact Nat.mul_le_mul_right _ (by omega)), E.cells_drop, E.cells_take]
    by_cases hz : j - i = 0
    · have hnil : (l.drop i).take (j - i) = [] := by rw [hz]; simp
      rw [hnil]
      rcases Nat.mod_two_eq_zero_or_one code with hm | hm
      · refine ⟨.slice (some ⟨b, if code / 2 = i then o else o + i * E.w, none⟩) (j - i) (2 * (code / 2 - i)), ?_, ⟨.inr (.inl ⟨rfl, _, _, by rw [hz], rfl⟩), ?_⟩, rfl⟩
        · simp only [slS, hh, Option.bind_some, hlo, hjc, if_true, hm]
        · have := hblk (if code / 2 = i then o else o + i * E.w)
          rwa [hm, Nat.add_zero] at this
      · have hrow : rowOf e (H.f b) = true := hcode.elim (fun h => by omega) id
        refine ⟨.slice (some ⟨b, o + i * E.w, none⟩) (j - i) (2 * (code / 2 - i) + 1), ?_, ⟨.inr (.inl ⟨rfl, _, _, by rw [hz], rfl⟩), ?_⟩, rfl⟩
        · simp only [slS, hh, Option.bind_some, hlo, hjc, if_true, hm, Nat.one_ne_zero, if_false, hrow]
        · have := hblk (o + i * E.w)
          rwa [hm] at this
    · rcases Nat.mod_two_eq_zero_or_one code with hm | hm
      · refine ⟨.slice (some ⟨b, o + i * E.w, none⟩) (j - i) (2 * (code / 2 - i)), ?_, ⟨?_, ?_⟩, rfl⟩
        · simp only [slS, hh, Option.bind_some, hlo, hjc, if_true, hm, show ¬ code / 2 = i by omega, if_false]
        · have := hrd hz
          rwa [hm, Nat.add_zero] at this
        · have := hblk (o + i * E.w)
          rwa [hm, Nat.add_zero] at this
      · have hrow : rowOf e (H.f b) = true := hcode.elim (fun h => by omega) id
        refine ⟨.slice (some ⟨b, o + i * E.w, none⟩) (j - i) (2 * (code / 2 - i) + 1), ?_, ⟨?_, ?_⟩, rfl⟩
        · simp only [slS, hh, Option.bind_some, hlo, hjc, if_true, hm, Nat.one_ne_zero, if_false, hrow]
        · have := hrd hz
          rwa [hm] at this
        · have := hblk (o + i * E.w)
          rwa [hm] at this

theorem low_nat {j i : Nat} {q : IntKind} (h : i ≤ j) : lowOf j (some (.int q (i : Int))) = some i := bnd_nat (q := q) h
theorem high_nat {y n j : Nat} {q : IntKind} (h : j ≤ y) : highOf y n (some (.int q (j : Int))) = some j := bnd_nat (q := q) h

theorem RdS.from {v : Value} {l : List α} (r : RdS E e H v l) {sz : Nat} (hsz : sz = E.w) {i : Nat} (hi : i ≤ l.length) {q : IntKind} :
    ∃ v', slS e sz v (some (.int q (i : Int))) none none H = some v' ∧ RdS E e H v' (l.drop i) ∧ blockOf v' = blockOf v := by
  obtain ⟨v', h1, h2, h3⟩ := r.part hsz hi (Nat.le_refl _) (some (.int q (i : Int))) none (low_nat hi) (fun y _ => rfl)
  exact ⟨v', h1, by rwa [List.take_of_length_le (by simp)] at h2, h3⟩
theorem RdS.to {v : Value} {l : List α} (r : RdS E e H v l) {sz : Nat} (hsz : sz = E.w) {j : Nat} (hj : j ≤ l.length) {q : IntKind} :
    ∃ v', slS e sz v none (some (.int q (j : Int))) none H = some v' ∧ RdS E e H v' (l.take j) ∧ blockOf v' = blockOf v := by
  obtain ⟨v', h1, h2, h3⟩ := r.part hsz (Nat.zero_le j) hj none (some (.int q (j : Int))) rfl (fun y hy => high_nat (by omega))
  exact ⟨v', h1, by simpa using h2, h3⟩
theorem RdS.mid {v : Value} {l : List α} (r : RdS E e H v l) {sz : Nat} (hsz : sz = E.w) {i j : Nat} (hi : i ≤ j) (hj : j ≤ l.length) {q q' : IntKind} :
    ∃ v', slS e sz v (some (.int q (i : Int))) (some (.int q' (j : Int))) none H = some v' ∧ RdS E e H v' ((l.drop i).take (j - i)) ∧ blockOf v' = blockOf v :=
  r.part hsz hi hj _ _ (low_nat hi) (fun y hy => high_nat (by omega))

/-! ### Appending, whatever is appended -/
theorem Own.appA {v : Value} {l : List α} (r : Own E H e v l) (m : List α) {sz bytes : Nat} (hsz : sz = E.w) (hb : (l.length + m.length) * bytes ≤ 140737488355328) (hn : l.length + m.length ≤ 140737488355328)
    {src : Option (Nat × List Value)} (hsrc : src = some (m.length, E.cells m)) :
    ∃ v' H', Eng.app e sz bytes v src H = some (v', H') ∧ Own E H' e v' (l ++ m) ∧ Fr (OnlyOf v) H H' ∧ (blockOf v' = blockOf v ∨ blockOf v' = some H.n) := by
  by_cases hm : m = []
  · subst hm
    refine ⟨v, H, ?_, by simpa using r, Fr.refl H, .inl rfl⟩
    obtain ⟨a, c, rfl⟩ := r.rd.shape
    rw [hsrc]
    simp [Eng.app]
  · obtain ⟨v', H', h1, h2, h3, h4, _⟩ := r.app hm hsz hb hn hsrc
    exact ⟨v', H', h1, h2, h3, h4⟩

/-- A slice whose capacity is its length. -/
def Full (v : Value) : Prop := v = .slice none 0 0 ∨ ∃ b o n, v = .slice (some ⟨b, o, none⟩) n (2 * n)
theorem Full.app {v : Value} {l : List α} (hf : Full v) (r : Rd E H v l) {m : List α} (hm : m ≠ []) {sz bytes : Nat} (hsz : sz = E.w) (hb : (l.length + m.length) * bytes ≤ 140737488355328) (hn : l.length + m.length ≤ 140737488355328)
    {src : Option (Nat × List Value)} (hsrc : src = some (m.length, E.cells m)) :
    ∃ v' H', Eng.app e sz bytes v src H = some (v', H') ∧ Own E H' e v' (l ++ m) ∧ Still H H' ∧ blockOf v' = some H.n ∧ gr 9 v' = false := by
  subst hsz hsrc
  have hm0 : m.length ≠ 0 := fun h => hm (List.length_eq_zero_iff.1 h)
  have hbig : ¬ ((l.length + m.length) * bytes > 140737488355328 ∨ l.length + m.length > 140737488355328) := by omega
  have hone := E.cells_one m
  have hown : Own E (H.push (.cells (E.cells l ++ E.cells m) e true)) e (.slice (some ⟨H.n, 0, none⟩) (l.length + m.length) (2 * (l.length + m.length) + 1)) (l ++ m) := by
    refine .inr (.inr ⟨H.n, 0, l.length + m.length, E.cells l ++ E.cells m, by simp, by simp, by simp, push_f_eq rfl, by simp [Nat.add_mul], ?_⟩)
    simp only [List.drop_zero]
    rw [List.take_of_length_le (by simp [Nat.add_mul]), E.cells_append]
  refine ⟨_, _, ?_, hown, (Fr.refl H).push _, rfl, rfl⟩
  rcases hf with rfl | ⟨b, o, n, rfl⟩
  · obtain ⟨a, c, hs⟩ := r.shape
    have h0 : l.length = 0 := by injection hs with _ h _; exact h.symm
    have hl : l = [] := List.length_eq_zero_iff.1 h0
    subst hl
    simp only [List.length_nil, Nat.zero_add] at hbig
    simp only [Eng.app, Option.bind_some, hm0, if_false, Nat.zero_add, hbig, Nat.zero_div, Nat.le_zero_eq, hone, Bool.true_eq_false, oldOf, if_true, Nat.zero_mod, Option.map_some, List.nil_append, Enc.cells_nil, List.length_nil]
  · obtain ⟨a, c, hs⟩ := r.shape
    have hnl : n = l.length := by injection hs
    subst hnl
    have hold : oldOf E.w l.length H (some ⟨b, o, none⟩) = some (E.cells l) := by
      unfold oldOf
      split
      · rename_i h0; rw [List.length_eq_zero_iff.1 h0]; rfl
      · rename_i h0
        rcases r with ⟨h, _⟩ | ⟨h, _⟩ | ⟨b', o', c', hv, hl, hb', hc⟩
        · rw [h] at h0; simp at h0
        · rw [h] at h0; simp at h0
        · cases hv
          simp only [cut_b, hc]
    simp only [Eng.app, Option.bind_some, hm0, if_false, hbig, show 2 * l.length / 2 = l.length by omega, show ¬ l.length + m.length ≤ l.length by omega, hone, Bool.true_eq_false, hold, show 2 * l.length % 2 = 0 by omega, if_true, Option.map_some]

end Go.Proofs.Ytehnchfnhbmkdaa.Eng

/-
  The engine, part 31: maps: entries, one by one, and what they stand for.
  Conditions: none. By an AI agent.
-/
namespace Go.Proofs.Ytehnchfnhbmkdaa.Eng
open Go
set_option linter.unusedVariables false
set_option linter.unusedSimpArgs false
set_option linter.unusedSectionVars false

variable {P : Program} {κ α : Type} [DecidableEq κ]

/-- How a key lies. -/
structure KeyK (κ : Type) [DecidableEq κ] where
  kv : κ → Value
  d : TypeDesc
  ok : ∀ a, keyOk d (kv a) = true
  eq : ∀ a b, keq (kv a) (kv b) = decide (a = b)

def kStr : KeyK ByteArray := ⟨.string, .string, fun _ => rfl, fun a b => by show (a == b) = _; rw [bytes_beq]; simp only [decide_eq_decide]; exact ⟨fun h => by cases a; cases b; unfold bl at h; congr 1; exact Array.toList_inj.1 h, fun h => by rw [h]⟩⟩
def kInt (q : IntKind) : KeyK Int := ⟨.int q, .int q, fun _ => by simp [keyOk], fun a b => by simp [keq, Bool.beq_eq_decide_eq]⟩

def lkp : List (κ × α) → κ → Option α
  | [], _ => none
  | p :: r, k => if k = p.1 then some p.2 else lkp r k
def has (es : List (κ × α)) (k : κ) : Bool := (lkp es k).isSome
def repE (es : List (κ × α)) (k : κ) (a : α) : List (κ × α) := es.map fun p => if k = p.1 then (p.1, a) else p
def putE (es : List (κ × α)) (k : κ) (a : α) : List (κ × α) := if has es k then repE es k a else es ++ [(k, a)]
def delE (es : List (κ × α)) (k : κ) : List (κ × α) := es.filter fun p => !decide (k = p.1)

theorem lkp_append (a b : List (κ × α)) (k : κ) : lkp (a ++ b) k = (lkp a k).or (lkp b k) := by
  induction a with
  | nil => rfl
  | cons p r ih =>
    simp only [List.cons_append, lkp]
    split
    · rfl
    · exact ih
theorem lkp_rep (es : List (κ × α)) (k j : κ) (a : α) : lkp (repE es k a) j = if k = j then (lkp es j).map (fun _ => a) else lkp es j := by
  induction es with
  | nil => simp [repE, lkp]
  | cons p r ih =>
    unfold repE at ih ⊢
    simp only [List.map_cons, lkp]
    by_cases h1 : k = p.1
    · rw [if_pos h1]
      simp only
      by_cases h2 : j = p.1
      · rw [if_pos h2, if_pos h2, if_pos (by rw [h1, h2])]; rfl
      · rw [if_neg h2, if_neg h2, ih]
    · rw [if_neg h1]
      by_cases h2 : j = p.1
      · rw [if_pos h2, if_pos h2, if_neg (by rw [h2]; exact h1)]
      · rw [if_neg h2, if_neg h2, ih]
theorem lkp_put (es : List (κ × α)) (k j : κ) (a : α) : lkp (putE es k a) j = if k = j then some a else lkp es j := by
  unfold putE has
  split
  · rename_i h
    rw [lkp_rep]
    by_cases hk : k = j
    · subst hk
      obtain ⟨x, hx⟩ := Option.isSome_iff_exists.1 h
      simp [hx]
    · rw [if_neg hk, if_neg hk]
  · rename_i h
    rw [lkp_append]
    by_cases hk : k = j
    · subst hk
      have : lkp es k = none := by simpa using h
      simp [this, lkp]
    · rw [if_neg hk]
      have : ¬ j = k := fun h => hk h.symm
      simp [lkp, this]
theorem lkp_del (es : List (κ × α)) (k j : κ) : lkp (delE es k) j = if k = j then none else lkp es j := by
  induction es with
  | nil => simp [delE, lkp]
  | cons p r ih =>
    unfold delE at ih ⊢
    by_cases h1 : k = p.1
    · rw [List.filter_cons_of_neg (by simp [h1]), ih]
      by_cases h2 : k = j
      · rw [if_pos h2, if_pos h2]
      · rw [if_neg h2, if_neg h2, lkp, if_neg (by rw [← h1]; exact fun h => h2 h.symm)]
    · rw [List.filter_cons_of_pos (by simp [h1]), lkp, ih, lkp]
      by_cases h2 : j = p.1
      · rw [if_pos h2, if_pos h2, if_neg (by rw [h2]; exact h1)]
      · rw [if_neg h2, if_neg h2]
theorem lkp_mem {es : List (κ × α)} {k : κ} {a : α} (h : lkp es k = some a) : (k, a) ∈ es := by
  induction es with
  | nil => simp [lkp] at h
  | cons p r ih =>
    rw [lkp] at h
    split at h
    · rename_i hk; cases h; subst hk; simp
    · exact List.mem_cons_of_mem _ (ih h)
theorem lkp_key {es : List (κ × α)} {k : κ} : has es k = true ↔ k ∈ es.map (·.1) := by
  unfold has
  induction es with
  | nil => simp [lkp]
  | cons p r ih =>
    simp only [lkp, List.map_cons, List.mem_cons]
    by_cases h : k = p.1
    · simp [h]
    · simp [h, ih]
theorem keys_rep (es : List (κ × α)) (k : κ) (a : α) : (repE es k a).map (·.1) = es.map (·.1) := by
  unfold repE
  rw [List.map_map]
  apply List.map_congr_left
  intro p _
  simp only [Function.comp]
  split <;> rfl
theorem keys_put_nodup {es : List (κ × α)} (h : (es.map (·.1)).Nodup) (k : κ) (a : α) : ((putE es k a).map (·.1)).Nodup := by
  unfold putE
  split
  · rw [keys_rep]; exact h
  · rename_i hk
    rw [List.map_append, List.nodup_append]
    refine ⟨h, by simp, fun x hx y hy => ?_⟩
    simp at hy
    subst hy
    intro he
    subst he
    exact hk (lkp_key.2 hx)
theorem keys_del_nodup {es : List (κ × α)} (h : (es.map (·.1)).Nodup) (k : κ) : ((delE es k).map (·.1)).Nodup := (List.filter_sublist.map _).nodup h

/-- The entries stand for a list. -/
def Ent (R : Value → α → Prop) (kv : κ → Value) : List (Value × Value) → List (κ × α) → Prop
  | [], [] => True
  | e :: ents, p :: es => e.1 = kv p.1 ∧ R e.2 p.2 ∧ Ent R kv ents es
  | _, _ => False

section
variable {R R' : Value → α → Prop} {Kk : KeyK κ} {ents : List (Value × Value)} {es : List (κ × α)}

theorem Ent.mono (h : ∀ v a, R v a → R' v a) {kv : κ → Value} : ∀ {ents : List (Value × Value)} {es : List (κ × α)}, Ent R kv ents es → Ent R' kv ents es
  | [], [], _ => trivial
  | _ :: _, _ :: _, e => ⟨e.1, h _ _ e.2.1, Ent.mono h e.2.2⟩
  | [], _ :: _, e => e
  | _ :: _, [], e => e
/-- Where each value's own relation may be told by its place. -/
theorem Ent.monoM {kv : κ → Value} : ∀ {ents : List (Value × Value)} {es : List (κ × α)}, (∀ e ∈ ents, ∀ a, R e.2 a → R' e.2 a) → Ent R kv ents es → Ent R' kv ents es
  | [], [], _, _ => trivial
  | x :: _, _ :: _, h, e => ⟨e.1, h x (by simp) _ e.2.1, Ent.monoM (fun y hy => h y (by simp [hy])) e.2.2⟩
  | [], _ :: _, _, e => e
  | _ :: _, [], _, e => e
theorem Ent.len {kv : κ → Value} : ∀ {ents : List (Value × Value)} {es : List (κ × α)}, Ent R kv ents es → ents.length = es.length
  | [], [], _ => rfl
  | _ :: _, _ :: _, e => by simp [Ent.len e.2.2]
  | [], _ :: _, e => e.elim
  | _ :: _, [], e => e.elim
theorem Ent.okd : ∀ {ents : List (Value × Value)} {es : List (κ × α)}, Ent R Kk.kv ents es → (ents.all fun p => keyOk Kk.d p.1) = true
  | [], [], _ => rfl
  | _ :: _, _ :: _, e => by rw [List.all_cons, e.1, Kk.ok, Ent.okd e.2.2]; rfl
  | [], _ :: _, e => e.elim
  | _ :: _, [], e => e.elim
theorem Ent.get (k : κ) : ∀ {ents : List (Value × Value)} {es : List (κ × α)}, Ent R Kk.kv ents es → (lkp es k = none → mget ents (Kk.kv k) = none) ∧ (∀ a, lkp es k = some a → ∃ v, mget ents (Kk.kv k) = some v ∧ R v a)
  | [], [], _ => ⟨fun _ => rfl, fun a h => by simp [lkp] at h⟩
  | x :: ents, p :: es, e => by
    obtain ⟨g1, g2⟩ := Ent.get k e.2.2
    have hk : keq (Kk.kv k) x.1 = decide (k = p.1) := by rw [e.1, Kk.eq]
    unfold mget at g1 g2 ⊢
    rw [lkp, List.find?_cons, hk]
    by_cases h : k = p.1
    · simp only [h, decide_true, if_true, Option.map_some]
      exact ⟨fun h => by simp at h, fun a ha => by cases ha; exact ⟨_, rfl, e.2.1⟩⟩
    · simp only [h, decide_false, if_false]
      exact ⟨g1, g2⟩
  | [], _ :: _, e => e.elim
  | _ :: _, [], e => e.elim
theorem Ent.any (k : κ) : ∀ {ents : List (Value × Value)} {es : List (κ × α)}, Ent R Kk.kv ents es → (ents.any fun p => keq (Kk.kv k) p.1) = has es k
  | [], [], _ => rfl
  | x :: ents, p :: es, e => by
    have ih := Ent.any k e.2.2
    unfold has at ih ⊢
    rw [List.any_cons, ih, e.1, Kk.eq, lkp]
    by_cases h : k = p.1 <;> simp [h]
  | [], _ :: _, e => e.elim
  | _ :: _, [], e => e.elim
theorem Ent.rep {k : κ} {v : Value} {a : α} (hv : R v a) : ∀ {ents : List (Value × Value)} {es : List (κ × α)}, Ent R Kk.kv ents es → Ent R Kk.kv (ents.map fun p => if keq (Kk.kv k) p.1 then (p.1, v) else p) (repE es k a)
  | [], [], _ => trivial
  | x :: ents, p :: es, e => by
    have ih := Ent.rep (k := k) hv e.2.2
    unfold repE at ih ⊢
    simp only [List.map_cons]
    rw [e.1, Kk.eq]
    by_cases h : k = p.1
    · simp only [h, decide_true, if_true]
      rw [h] at ih
      exact ⟨rfl, hv, ih⟩
    · simp only [h, decide_false, if_false]
      exact ⟨e.1, e.2.1, ih⟩
  | [], _ :: _, e => e.elim
  | _ :: _, [], e => e.elim
theorem Ent.app {kv : κ → Value} : ∀ {ents e2 : List (Value × Value)} {es s2 : List (κ × α)}, Ent R kv ents es → Ent R kv e2 s2 → Ent R kv (ents ++ e2) (es ++ s2)
  | [], _, [], _, _, h => h
  | _ :: _, _, _ :: _, _, e, h => ⟨e.1, e.2.1, Ent.app e.2.2 h⟩
  | [], _, _ :: _, _, e, _ => e.elim
  | _ :: _, _, [], _, e, _ => e.elim
theorem Ent.put {k : κ} {v : Value} {a : α} (hv : R v a) (e : Ent R Kk.kv ents es) : Ent R Kk.kv (mput ents (Kk.kv k) v) (putE es k a) := by
  unfold mput putE
  rw [e.any k]
  split
  · exact e.rep hv
  · exact e.app ⟨rfl, hv, trivial⟩
theorem Ent.del {k : κ} : ∀ {ents : List (Value × Value)} {es : List (κ × α)}, Ent R Kk.kv ents es → Ent R Kk.kv (mdel ents (Kk.kv k)) (delE es k)
  | [], [], _ => trivial
  | x :: ents, p :: es, e => by
    have ih := Ent.del (k := k) e.2.2
    unfold mdel delE at ih ⊢
    by_cases h : k = p.1
    · rw [List.filter_cons_of_neg (by rw [e.1, Kk.eq]; simp [h]), List.filter_cons_of_neg (by simp [h])]
      exact ih
    · rw [List.filter_cons_of_pos (by rw [e.1, Kk.eq]; simp [h]), List.filter_cons_of_pos (by simp [h])]
      exact ⟨e.1, e.2.1, ih⟩
  | [], _ :: _, e => e.elim
  | _ :: _, [], e => e.elim

/-- A map type. -/
structure MapT (P : Program) (Kk : KeyK κ) (t : TypeId) (z : Value) : Prop where
  ut : ∃ kt et, P.underlying t = some (.map kt et) ∧ keyDesc P kt = some Kk.d ∧ zero? P et = some z

variable {t : TypeId} {z : Value} {H : AHeap} {b : Nat}

theorem look_none (m : MapT P Kk t z) (hf : H.f b = .map ents) (e : Ent R Kk.kv ents es) {k : κ} (h : lkp es k = none) (ok : Bool) : xlookup P t (.map (some b)) (Kk.kv k) ok H = some (if ok then .tuple #[z, .bool false] else z) := by
  obtain ⟨kt, et, h1, h2, h3⟩ := m.ut
  unfold xlookup
  simp only [h1, h2, h3, Kk.ok, if_true, entries, hf, e.okd, Option.map_some, (e.get k).1 h]
theorem look_some (m : MapT P Kk t z) (hf : H.f b = .map ents) (e : Ent R Kk.kv ents es) {k : κ} {a : α} (h : lkp es k = some a) (ok : Bool) : ∃ v, xlookup P t (.map (some b)) (Kk.kv k) ok H = some (if ok then .tuple #[v, .bool true] else v) ∧ R v a := by
  obtain ⟨kt, et, h1, h2, h3⟩ := m.ut
  obtain ⟨v, h4, h5⟩ := (e.get k).2 a h
  refine ⟨v, ?_, h5⟩
  unfold xlookup
  simp only [h1, h2, h3, Kk.ok, if_true, entries, hf, e.okd, Option.map_some, h4]
theorem look_nil (m : MapT P Kk t z) {k : κ} (ok : Bool) : xlookup P t (.map none) (Kk.kv k) ok H = some (if ok then .tuple #[z, .bool false] else z) := by
  obtain ⟨kt, et, h1, h2, h3⟩ := m.ut
  unfold xlookup
  simp only [h1, h2, h3, Kk.ok, if_true, entries, Option.map_some, mget, List.find?_nil, Option.map_none]
theorem upd_map (m : MapT P Kk t z) (hf : H.f b = .map ents) (e : Ent R Kk.kv ents es) (k : κ) (v : Value) : xmapUpdate P t (.map (some b)) (Kk.kv k) v H = some (H.set b (.map (mput ents (Kk.kv k) v))) := by
  obtain ⟨kt, et, h1, h2, h3⟩ := m.ut
  unfold xmapUpdate
  simp only [h1, h2, Kk.ok, if_true, entries, hf, e.okd, Option.map_some]
theorem del_map (m : MapT P Kk t z) (hf : H.f b = .map ents) (e : Ent R Kk.kv ents es) (k : κ) (ts : List TypeId) : xdelete P (t :: ts) (.map (some b)) (Kk.kv k) H = some (.tuple #[], H.set b (.map (mdel ents (Kk.kv k)))) := by
  obtain ⟨kt, et, h1, h2, h3⟩ := m.ut
  unfold xdelete
  simp only [h1, h2, Kk.ok, if_true, entries, hf, e.okd, Option.map_some]
theorem del_nil (m : MapT P Kk t z) (k : κ) (ts : List TypeId) : xdelete P (t :: ts) (.map none) (Kk.kv k) H = some (.tuple #[], H) := by
  obtain ⟨kt, et, h1, h2, h3⟩ := m.ut
  unfold xdelete
  simp only [h1, h2, Kk.ok, if_true]
theorem len_map (m : MapT P Kk t z) (hf : H.f b = .map ents) (e : Ent R Kk.kv ents es) (ts : List TypeId) : xlenM P (t :: ts) (.map (some b)) H = some (.int .i64 (es.length : Int)) := by
  obtain ⟨kt, et, h1, h2, h3⟩ := m.ut
  unfold xlenM
  simp only [h1, hf, e.len]
  rfl
theorem len_mapnil (m : MapT P Kk t z) (ts : List TypeId) : xlenM P (t :: ts) (.map none) H = some (.int .i64 0) := by
  obtain ⟨kt, et, h1, h2, h3⟩ := m.ut
  unfold xlenM
  simp only [h1]
  rfl
theorem make_map (m : MapT P Kk t z) : xmakeMap P t none H = some (.map (some H.n), H.push (.map [])) := by
  obtain ⟨kt, et, h1, h2, h3⟩ := m.ut
  unfold xmakeMap
  simp only [h1]
end

end Go.Proofs.Ytehnchfnhbmkdaa.Eng

/-
  The engine, part 27: a law's arguments that are slices: what they read as in the abstract heap.
  Conditions: none. By an AI agent.
-/
namespace Go.Proofs.Ytehnchfnhbmkdaa.Eng
open Go
set_option linter.unusedVariables false
set_option linter.unusedSimpArgs false

variable {P : Program} {W : World}

theorem cell_abs {a : Addr} {v : Value} (h : W.cell? a = some v) : ∃ cs e fr, W.heap[a.block]? = some (.cells cs e fr) ∧ cs[a.off]? = some v ∧ a.spot = none := by
  unfold World.cell? at h
  split at h
  · rename_i c e fr hw
    split at h
    · cases h
    · rename_i hs
      exact ⟨c, e, fr, hw, h, by simpa using hs⟩
  · cases h

/-- A cell that names no memory. -/
def plain : Value → Bool
  | .int _ _ | .string _ | .bool _ => true
  | _ => false

theorem conv_plain {n : Nat} {v : Value} (h : plain v = true) : conv n v = v := by
  cases v <;> first | rfl | (simp [plain] at h)

theorem absHeap_cell {a : Addr} {v : Value} (h : W.cell? a = some v) (hp : plain v = true) : a.block < W.heap.size ∧ a.spot = none ∧ cellB ((absHeap W).f a.block) a.off = some v := by
  obtain ⟨cs, e, fr, h1, h2, h3⟩ := cell_abs h
  refine ⟨by rw [Array.getElem?_eq_some_iff] at h1; exact h1.1, h3, ?_⟩
  simp only [absHeap, h1, cellB]
  rw [List.getElem?_map, Array.getElem?_toList, h2]
  simp [conv_plain hp]

theorem cutB_of_cells {k : Blk} {o n : Nat} {xs : List Value} (hl : xs.length = n) (hn : 0 < n) (h : ∀ i, i < n → cellB k (o + i) = xs[i]?) : cutB k o n = some xs := by
  cases k with
  | cells ys e rw =>
    unfold cutB
    simp only
    have hlen : o + n ≤ ys.length := by
      have := h (n - 1) (by omega)
      rw [List.getElem?_eq_getElem (by omega)] at this
      unfold cellB at this
      have := (List.getElem?_eq_some_iff.1 this).1
      omega
    rw [if_pos hlen]
    congr 1
    apply List.ext_getElem?
    intro i
    by_cases hi : i < n
    · rw [List.getElem?_take_of_lt hi, List.getElem?_drop, ← h i hi]
      rfl
    · rw [List.getElem?_eq_none (by simp; omega), List.getElem?_eq_none (by omega)]
  | _ =>
    have := h 0 hn
    rw [List.getElem?_eq_getElem (by omega)] at this
    cases this

section
variable {α : Type} {E : Enc α} {R : α → Prop} {H : Type} {enc : TypeId × Value → H}

/-- A slice of elements of plain cells reads as a list. -/
theorem open_rd {t e : TypeId} {v : Value} {d : DataW H} {p : List MemPlace} (ht : P.underlying t = some (.slice e)) (hC : P.cellsOf e = E.w)
    (dec : ∀ cs n y, DataW.trod enc P W 0 (fun _ => true) true n e cs = some y → cs.length = E.w → ∃ a, cs = E.enc a ∧ R a ∧ cs.all plain = true)
    (hval : Value.okWide P W .any 0 t v) (h : DataW.Trod enc P W 0 (fun _ => true) true t v d p) :
    ∃ l : List α, Rd E (absHeap W) (convA W.heap.size v) l ∧ (∀ a, a ∈ l → R a) ∧ l.length ≤ maxLen := by
  obtain ⟨a0, len0, cap0, rfl⟩ := Go.WideShapes.okWide_slice ht hval
  obtain ⟨fuel, hf⟩ := h
  rcases DataW.trod_slice ht hf with ⟨h0, _⟩ | ⟨a, len, cap, elems, rest, n, _, hcs, _, _, hl, hm, hlen, hel, _, _⟩
  · simp [Value.cells] at h0
    obtain ⟨rfl, rfl, rfl⟩ := h0
    exact ⟨[], .inl ⟨rfl, rfl⟩, by simp, by simp⟩
  · simp [Value.cells] at hcs
    obtain ⟨rfl, rfl, rfl⟩ := hcs
    -- the elements
    have hone : ∀ i, i < len0 → ∃ x : α, R x ∧ ∀ j, j < E.w → ∃ c, W.cell? ((a.add (i * E.w)).add j) = some c ∧ (E.enc x)[j]? = some c ∧ plain c = true := by
      intro i hi
      have h1 := hel i hi
      rw [List.getElem?_eq_getElem (by omega)] at h1
      obtain ⟨cs, hc, htr⟩ := Option.bind_eq_some_iff.1 h1
      rw [hC] at hc
      obtain ⟨_, hcl, hat⟩ := World.cells?_some hc
      obtain ⟨x, hx, hR, hpl⟩ := dec cs _ _ htr hcl
      refine ⟨x, hR, fun j hj => ?_⟩
      have hj' : j < cs.length := by omega
      refine ⟨cs[j], by rw [hat j hj, List.getElem?_eq_getElem hj'], by rw [← hx, List.getElem?_eq_getElem hj'], List.all_eq_true.1 hpl _ (List.getElem_mem _)⟩
    have hall : ∀ m, m ≤ len0 → ∃ l : List α, l.length = m ∧ (∀ x, x ∈ l → R x) ∧ ∀ i, ∀ h : i < l.length, ∀ j, j < E.w → ∃ c, W.cell? ((a.add (i * E.w)).add j) = some c ∧ (E.enc l[i])[j]? = some c ∧ plain c = true := by
      intro m
      induction m with
      | zero => intro _; exact ⟨[], rfl, by simp, by simp⟩
      | succ m ih =>
        intro hm
        obtain ⟨l, h1, h2, h3⟩ := ih (by omega)
        obtain ⟨x, hR, hx⟩ := hone m (by omega)
        refine ⟨l ++ [x], by simp [h1], fun y hy => ?_, fun i hi j hj => ?_⟩
        · rcases List.mem_append.1 hy with hy | hy
          · exact h2 y hy
          · simp at hy; subst hy; exact hR
        · by_cases hil : i < l.length
          · rw [List.getElem_append_left hil]; exact h3 i hil j hj
          · have : i = m := by simp at hi; omega
            subst this
            rw [List.getElem_append_right (by omega)]
            simp only [h1, Nat.sub_self, List.getElem_cons_zero]
            exact hx j hj
    obtain ⟨l, hll, hR, hcell⟩ := hall len0 (Nat.le_refl _)
    refine ⟨l, ?_, hR, by omega⟩
    by_cases h0 : l = []
    · subst h0
      simp at hll
      subst hll
      -- no element: the place is one all the same
      simp only [Value.okWide, ht, Cell.okWide, Cell.ok] at hval
      obtain ⟨hle, _, _, hs, row, cells, hshape, _⟩ := hval
      have hb : a.block < W.heap.size := by
        unfold World.shape? at hshape
        split at hshape
        · rename_i hw; exact (Array.getElem?_eq_some_iff.1 hw).1
        · cases hshape
      obtain ⟨b, o, s⟩ := a
      simp only at hs hb
      subst hs
      refine .inr (.inl ⟨rfl, ⟨b, o, none⟩, 2 * cap0, ?_, rfl⟩)
      simp only [convA, conv]
      rw [if_pos ⟨hb, hle⟩]
    · have hpos : 0 < l.length := List.length_pos_iff.2 h0
      obtain ⟨c0, hc0, _, hp0⟩ := hcell 0 hpos 0 E.pos
      simp only [Nat.zero_mul] at hc0
      have hadd0 : (a.add 0).add 0 = a := by simp [Addr.add]
      rw [hadd0] at hc0
      obtain ⟨hb, hs, _⟩ := absHeap_cell hc0 hp0
      obtain ⟨b, o, s⟩ := a
      simp only at hs hb
      subst hs
      have hconv : convA W.heap.size (.slice (some ⟨b, o, none⟩) len0 cap0) = .slice (some ⟨b, o, none⟩) l.length (2 * cap0) := by
        rw [hll]
        simp only [convA, conv]
        rw [if_pos ⟨hb, hl⟩]
      rw [hconv]
      refine .inr (.inr ⟨b, o, _, rfl, h0, hb, ?_⟩)
      refine cutB_of_cells (by simp) (Nat.mul_pos hpos E.pos) fun i hi => ?_
      have hw := E.pos
      have hdm : i = (i / E.w) * E.w + i % E.w := by rw [Nat.mul_comm]; exact (Nat.div_add_mod i E.w).symm
      have hmod : i % E.w < E.w := Nat.mod_lt _ hw
      have hdiv : i / E.w < l.length := Nat.div_lt_of_lt_mul (by rw [Nat.mul_comm]; exact hi)
      obtain ⟨c, hc, hec, hpc⟩ := hcell (i / E.w) hdiv (i % E.w) hmod
      have haddr : ((⟨b, o, none⟩ : Addr).add (i / E.w * E.w)).add (i % E.w) = ⟨b, o + i, none⟩ := by
        have : ∀ (x y z : Nat), ((⟨x, y, none⟩ : Addr).add z) = ⟨x, y + z, none⟩ := by
          intro x y z
          unfold Addr.add
          split
          · rename_i h; subst h; rfl
          · rfl
        rw [this, this, Nat.add_assoc, ← hdm]
      rw [haddr] at hc
      obtain ⟨_, _, habs⟩ := absHeap_cell hc hpc
      rw [habs]
      have hel2 := E.cells_elem l (i / E.w) hdiv
      have : (E.cells l)[i]? = (E.enc l[i / E.w])[i % E.w]? := by
        rw [← hel2, List.getElem?_take_of_lt hmod, List.getElem?_drop, ← hdm]
      rw [this, hec]
end

/-! ### What cells of a kind are -/
theorem dec_int {H : Type} {enc : TypeId × Value → H} {e : TypeId} {k : IntKind} (he : P.underlying e = some (.int k)) {n : Nat} {y : DataW H × List MemPlace} {c : Value} (h : DataW.trod enc P W 0 (fun _ => true) true n e [c] = some y) :
    ∃ i, c = .int k i ∧ (Lit.int k i).wf = true := by
  obtain ⟨i, h1, _, h2⟩ := DataW.trod_int he h
  exact ⟨i, (List.cons.inj h1).1, h2⟩
theorem dec_str {H : Type} {enc : TypeId × Value → H} {e : TypeId} (he : P.underlying e = some .string) {n : Nat} {y : DataW H × List MemPlace} {c : Value} (h : DataW.trod enc P W 0 (fun _ => true) true n e [c] = some y) :
    ∃ s, c = .string s ∧ s.size ≤ maxLen := by
  obtain ⟨i, h1, _, h2⟩ := DataW.trod_string he h
  exact ⟨i, (List.cons.inj h1).1, h2⟩

theorem wf_i64 {i : Int} (h : (Lit.int .i64 i).wf = true) : -9223372036854775808 ≤ i ∧ i < 9223372036854775808 := by
  simp [Lit.wf, IntKind.min, IntKind.max, IntKind.signed, IntKind.bits] at h
  omega

/-- A field of a struct of one-cell fields. -/
theorem dec_field {H : Type} {enc : TypeId × Value → H} {t : TypeId} {fs : Array Field} (ht : P.underlying t = some (.struct fs)) {n : Nat} {cs : List Value} {y : DataW H × List MemPlace} (h : DataW.trod enc P W 0 (fun _ => true) true n t cs = some y)
    {i : Nat} {f : Field} (hf : fs[i]? = some f) (ho : f.offset = i) (hc : P.cellsOf f.type = 1) {c : Value} (hci : cs[i]? = some c) :
    ∃ m z, DataW.trod enc P W 0 (fun _ => true) true m f.type [c] = some z := by
  obtain ⟨xs, m, _, _, hl, hxl, hfd⟩ := DataW.trod_struct ht h
  have h1 := hfd i f hf
  have hi : i < cs.length := (List.getElem?_eq_some_iff.1 hci).1
  have hone : (cs.drop f.offset).take (P.cellsOf f.type) = [c] := by
    rw [ho, hc, List.drop_eq_getElem_cons hi]
    have := (List.getElem?_eq_some_iff.1 hci).2
    simp [this]
  rw [hone] at h1
  have hix : i < xs.length := by rw [hxl]; exact (Array.getElem?_eq_some_iff.1 hf).1
  rw [List.getElem?_eq_getElem hix] at h1
  exact ⟨_, _, h1⟩

end Go.Proofs.Ytehnchfnhbmkdaa.Eng

/-
  The engine, part 32: a law's arguments that are slices of slices (or of anything that reads): an empty slice may name any place.
  Conditions: none. By an AI agent.
-/
namespace Go.Proofs.Ytehnchfnhbmkdaa.Eng
open Go
set_option linter.unusedVariables false
set_option linter.unusedSimpArgs false

/-- As conv, and a slice without capacity stands for any such slice. -/
def conv2 (n : Nat) : Value → Value
  | .slice (some _) 0 0 => if 0 < n then .slice (some ⟨0, 0, none⟩) 0 0 else top
  | v => conv n v
def convA2 (n : Nat) : Value → Value
  | .agg cs => .agg (cs.map (conv2 n))
  | v => conv2 n v
def absHeap2 (w : World) : AHeap := ⟨w.heap.size, 1, fun b => match w.heap[b]? with | some (.cells cs e _) => .cells (cs.toList.map (conv2 w.heap.size)) e false | _ => .dead, fun _ => 0⟩

theorem conv2_rel (w : World) (v : Value) : RV (idE w) (conv2 w.heap.size v) v := by
  unfold conv2
  split
  · split
    · exact .sl0 (by decide)
    · exact .unk _
  · exact conv_rel w v
theorem convA2_rel (w : World) (v : Value) : RV (idE w) (convA2 w.heap.size v) v := by
  unfold convA2
  split
  · rename_i cs
    refine .agg (by simp) fun i u u' h h' => ?_
    simp only [Array.getElem?_map, Option.map_eq_some_iff] at h
    obtain ⟨x, hx, rfl⟩ := h
    rw [h'] at hx
    cases hx
    exact conv2_rel w u'
  · exact conv2_rel w v
theorem conv2_ad (n : Nat) (v : Value) : AD n (conv2 n v) := by
  unfold conv2
  split
  · split
    · rename_i h; exact .sl h
    · exact .unk
  · exact conv_ad n v
theorem convA2_ad (n : Nat) (v : Value) : AD n (convA2 n v) := by
  unfold convA2
  split
  · refine .agg fun u hu => ?_
    simp only [Array.toList_map, List.mem_map] at hu
    obtain ⟨x, _, rfl⟩ := hu
    exact conv2_ad n x
  · exact conv2_ad n v
theorem absHeap2_rel (P : Program) (w : World) (hgl : Glob w.heap.size w) : Rel P w.heap.size (idE w) (absHeap2 w) w := by
  refine ⟨fun b L h => ?_, fun b L h => ?_, fun b c L M h1 h2 hne ho ha => ?_, Nat.le_refl _, fun _ => Nat.zero_lt_one, hgl⟩
  · unfold idE at h
    split at h
    · rename_i hb
      simp at h
      subst h
      simp only [absHeap2]
      cases hq : w.heap[b]? with
      | none => trivial
      | some o =>
        cases o with
        | cells cs e fr =>
          refine ⟨cs, e, fr, hq, rfl, by simp, fun i v hv => ?_, fun h => by cases h⟩
          simp only [List.getElem?_map, Option.map_eq_some_iff] at hv
          obtain ⟨x, hx, rfl⟩ := hv
          exact ⟨x, by simpa using hx, conv2_rel w x⟩
        | _ => trivial
    · simp at h
  · unfold idE at h
    split at h
    · rename_i hb
      simp at h
      subst h
      exact ⟨hb, hb⟩
    · simp at h
  · exfalso
    simp only [absHeap2] at ho
    split at ho <;> simp [owned] at ho
theorem absHeap2_cl (w : World) : Cl (absHeap2 w) := by
  refine ⟨fun b xs e rw h => ?_, fun b es h => ?_, fun _ => Nat.zero_lt_one⟩
  · simp only [absHeap2] at h
    split at h
    · cases h
      intro v hv
      obtain ⟨x, _, rfl⟩ := List.mem_map.1 hv
      exact conv2_ad _ x
    · cases h
  · simp only [absHeap2] at h
    split at h <;> cases h

theorem law_calls2 {P : Program} {prims : Prims} {hints : Hints} (hp : PrimsOK P prims) (hm : P.follows .mixedOrders = true) {f : FuncId} {args : Array Value} {W : World} (hgl : Glob W.heap.size W)
    (h : ∃ n H', dCall P prims hints n f (args.toList.map (convA2 W.heap.size)) (absHeap2 W) = some (.bool true, H')) :
    Calls P f args W fun e W' => e = .returned (.bool true) ∧ RowKit.Below W.heap.size W W' := by
  obtain ⟨n, H', h⟩ := h
  have hrel := absHeap2_rel P W hgl
  have hargs : RVs (idE W) (args.toList.map (convA2 W.heap.size)) args.toList := RVs.of_get (by simp) fun i v v' hv hv' => by
    simp only [List.getElem?_map, Option.map_eq_some_iff] at hv
    obtain ⟨x, hx, rfl⟩ := hv
    rw [hv'] at hx
    cases hx
    exact convA2_rel W v'
  have had : ADs (absHeap2 W).n (args.toList.map (convA2 W.heap.size)) := fun v hv => by
    obtain ⟨x, _, rfl⟩ := List.mem_map.1 hv
    exact convA2_ad _ x
  have := call_sound hp hm n f _ _ _ _ h (absHeap2_cl W) had _ _ W args.toList hrel hargs
  rw [Array.toArray_toList] at this
  refine this.mono ?_
  rintro e w' ⟨v', ι', rfl, hv, hr, hs⟩
  refine ⟨?_, hs.below hrel⟩
  cases hv
  rfl

variable {P : Program} {W : World}
theorem absHeap2_cell {a : Addr} {v : Value} (h : W.cell? a = some v) : a.block < W.heap.size ∧ a.spot = none ∧ cellB ((absHeap2 W).f a.block) a.off = some (conv2 W.heap.size v) := by
  obtain ⟨cs, e, fr, h1, h2, h3⟩ := cell_abs h
  refine ⟨by rw [Array.getElem?_eq_some_iff] at h1; exact h1.1, h3, ?_⟩
  simp only [absHeap2, h1, cellB]
  rw [List.getElem?_map, Array.getElem?_toList, h2]
  rfl

section
variable {α : Type} {E : Enc α} {R : α → Prop} {H : Type} {enc : TypeId × Value → H}

/-- A slice, read out of its one cell. -/
theorem open_cell2 {t e e' : TypeId} {cs : List Value} {n : Nat} {y : DataW H × List MemPlace} (ht : P.underlying t = some (.slice e)) (hC : P.cellsOf e = E.w)
    (dec : 0 < W.heap.size → ∀ cs n y, DataW.trod enc P W 0 (fun _ => true) true n e cs = some y → cs.length = E.w → ∃ a, cs.map (conv2 W.heap.size) = E.enc a ∧ R a)
    (hpos : 0 < W.heap.size ∨ ∀ a, cs ≠ [.slice (some a) 0 0]) (hf : DataW.trod enc P W 0 (fun _ => true) true n t cs = some y) :
    ∃ v l, cs = [v] ∧ RdS E e' (absHeap2 W) (conv2 W.heap.size v) l ∧ (∀ a, a ∈ l → R a) ∧ l.length ≤ maxLen ∧ ∃ a k c, v = .slice a k c := by
  rcases DataW.trod_slice ht hf with ⟨rfl, _⟩ | ⟨a, len, cap, elems, rest, n, _, rfl, _, _, hl, hm, hlen, hel, hrest, _⟩
  · exact ⟨_, [], rfl, RdS.nil, by simp, by simp, _, _, _, rfl⟩
  · refine ⟨.slice (some a) len cap, ?_⟩
    have hone : ∀ i, i < len → ∃ x : α, R x ∧ ∀ j, j < E.w → ∃ c, W.cell? ((a.add (i * E.w)).add j) = some c ∧ (E.enc x)[j]? = some (conv2 W.heap.size c) := by
      intro i hi
      have h1 := hel i hi
      rw [List.getElem?_eq_getElem (by omega)] at h1
      obtain ⟨cs, hc, htr⟩ := Option.bind_eq_some_iff.1 h1
      rw [hC] at hc
      obtain ⟨_, hcl, hat⟩ := World.cells?_some hc
      have hp : 0 < W.heap.size := by
        have h2 := hat 0 E.pos
        have hpp := E.pos
        rw [List.getElem?_eq_getElem (by omega)] at h2
        have := (absHeap2_cell h2).1
        omega
      obtain ⟨x, hx, hR⟩ := dec hp cs _ _ htr hcl
      refine ⟨x, hR, fun j hj => ?_⟩
      have hj' : j < cs.length := by omega
      refine ⟨cs[j], by rw [hat j hj, List.getElem?_eq_getElem hj'], ?_⟩
      rw [← hx, List.getElem?_map, List.getElem?_eq_getElem hj']
      rfl
    have hall : ∀ m, m ≤ len → ∃ l : List α, l.length = m ∧ (∀ x, x ∈ l → R x) ∧ ∀ i, ∀ h : i < l.length, ∀ j, j < E.w → ∃ c, W.cell? ((a.add (i * E.w)).add j) = some c ∧ (E.enc l[i])[j]? = some (conv2 W.heap.size c) := by
      intro m
      induction m with
      | zero => intro _; exact ⟨[], rfl, by simp, by simp⟩
      | succ m ih =>
        intro hm
        obtain ⟨l, h1, h2, h3⟩ := ih (by omega)
        obtain ⟨x, hR, hx⟩ := hone m (by omega)
        refine ⟨l ++ [x], by simp [h1], fun y hy => ?_, fun i hi j hj => ?_⟩
        · rcases List.mem_append.1 hy with hy | hy
          · exact h2 y hy
          · simp at hy; subst hy; exact hR
        · by_cases hil : i < l.length
          · rw [List.getElem_append_left hil]; exact h3 i hil j hj
          · have : i = m := by simp at hi; omega
            subst this
            rw [List.getElem_append_right (by omega)]
            simp only [h1, Nat.sub_self, List.getElem_cons_zero]
            exact hx j hj
    obtain ⟨l, hll, hR, hcell⟩ := hall len (Nat.le_refl _)
    refine ⟨l, rfl, ?_, hR, by omega, _, _, _, rfl⟩
    by_cases hc0 : cap = 0
    · -- no capacity
      have hl0 : len = 0 := by omega
      have h0 : l = [] := List.length_eq_zero_iff.1 (by omega)
      subst hc0 hl0 h0
      have hp : 0 < W.heap.size := hpos.resolve_right fun h => h a rfl
      have e1 : conv2 W.heap.size (.slice (some a) 0 0) = .slice (some ⟨0, 0, none⟩) 0 0 := by unfold conv2; simp [hp]
      rw [e1]
      exact ⟨.inr (.inl ⟨rfl, _, _, rfl, rfl⟩), .inr ⟨0, 0, 0, 0, rfl, Nat.le_refl _, .inl rfl, hp⟩⟩
    · -- a cell stands at its place
      have hfirst : ∃ c, W.cell? a = some c := by
        have key : ∀ (o : Option (DataW H × List MemPlace)), (W.cells? 0 (a.add 0) (P.cellsOf e)).bind (DataW.trod enc P W 0 (fun _ => true) true n e) = o → (∃ z, o = some z) → ∃ c, W.cell? a = some c := fun o h1 ⟨z, h2⟩ => by
          rw [h2] at h1
          obtain ⟨cs, hc, _⟩ := Option.bind_eq_some_iff.1 h1
          rw [hC] at hc
          obtain ⟨_, hcl, hat⟩ := World.cells?_some hc
          have := hat 0 E.pos
          have hpp := E.pos
          rw [List.getElem?_eq_getElem (by omega)] at this
          exact ⟨_, by simpa [Addr.add] using this⟩
        by_cases h0 : len = 0
        · obtain ⟨h1, h2⟩ := hrest rfl
          have := h2 0 (by omega)
          rw [h0] at this
          simp only [Nat.add_zero, Nat.zero_mul] at this
          exact key _ this ⟨_, List.getElem?_eq_getElem (by omega)⟩
        · have := hel 0 (by omega)
          simp only [Nat.zero_mul] at this
          exact key _ this ⟨_, List.getElem?_eq_getElem (by omega)⟩
      obtain ⟨c0, hc0'⟩ := hfirst
      obtain ⟨hb, hs, _⟩ := absHeap2_cell hc0'
      obtain ⟨b, o, s⟩ := a
      simp only at hs hb
      subst hs
      have hconv : conv2 W.heap.size (.slice (some ⟨b, o, none⟩) len cap) = .slice (some ⟨b, o, none⟩) l.length (2 * cap) := by
        have : conv2 W.heap.size (.slice (some ⟨b, o, none⟩) len cap) = conv W.heap.size (.slice (some ⟨b, o, none⟩) len cap) := by
          unfold conv2
          split
          · rename_i h; cases h; exact absurd rfl hc0
          · rfl
        rw [this, hll]
        simp only [conv]
        rw [if_pos ⟨hb, hl⟩]
      rw [hconv]
      refine ⟨?_, .inr ⟨b, o, _, _, rfl, by omega, .inl (by omega), hb⟩⟩
      by_cases h0 : l = []
      · subst h0
        exact .inr (.inl ⟨rfl, _, _, rfl, rfl⟩)
      refine .inr (.inr ⟨b, o, _, rfl, h0, hb, ?_⟩)
      have hlp : 0 < l.length := List.length_pos_iff.2 h0
      refine cutB_of_cells (by simp) (Nat.mul_pos hlp E.pos) fun i hi => ?_
      have hw := E.pos
      have hdm : i = (i / E.w) * E.w + i % E.w := by rw [Nat.mul_comm]; exact (Nat.div_add_mod i E.w).symm
      have hmod : i % E.w < E.w := Nat.mod_lt _ hw
      have hdiv : i / E.w < l.length := Nat.div_lt_of_lt_mul (by rw [Nat.mul_comm]; exact hi)
      obtain ⟨c, hc, hec⟩ := hcell (i / E.w) hdiv (i % E.w) hmod
      have haddr : ((⟨b, o, none⟩ : Addr).add (i / E.w * E.w)).add (i % E.w) = ⟨b, o + i, none⟩ := by
        have : ∀ (x y z : Nat), ((⟨x, y, none⟩ : Addr).add z) = ⟨x, y + z, none⟩ := by
          intro x y z
          unfold Addr.add
          split
          · rename_i h; subst h; rfl
          · rfl
        rw [this, this, Nat.add_assoc, ← hdm]
      rw [haddr] at hc
      obtain ⟨_, _, habs⟩ := absHeap2_cell hc
      rw [habs]
      have hel2 := E.cells_elem l (i / E.w) hdiv
      have : (E.cells l)[i]? = (E.enc l[i / E.w])[i % E.w]? := by
        rw [← hel2, List.getElem?_take_of_lt hmod, List.getElem?_drop, ← hdm]
      rw [this, hec]

/-- An argument that is a slice. -/
theorem open_rd2 {t e e' : TypeId} {v : Value} {d : DataW H} {p : List MemPlace} (ht : P.underlying t = some (.slice e)) (hC : P.cellsOf e = E.w)
    (dec : 0 < W.heap.size → ∀ cs n y, DataW.trod enc P W 0 (fun _ => true) true n e cs = some y → cs.length = E.w → ∃ a, cs.map (conv2 W.heap.size) = E.enc a ∧ R a)
    (hval : Value.okWide P W .any 0 t v) (h : DataW.Trod enc P W 0 (fun _ => true) true t v d p) :
    ∃ l : List α, RdS E e' (absHeap2 W) (convA2 W.heap.size v) l ∧ (∀ a, a ∈ l → R a) ∧ l.length ≤ maxLen := by
  obtain ⟨a0, len0, cap0, rfl⟩ := Go.WideShapes.okWide_slice ht hval
  obtain ⟨fuel, hf⟩ := h
  have hpos : 0 < W.heap.size ∨ ∀ a, (Value.slice a0 len0 cap0).cells.toList ≠ [.slice (some a) 0 0] := by
    cases a0 with
    | none => exact .inr fun a h => by simp [Value.cells] at h
    | some a =>
      left
      simp only [Value.okWide, ht, Cell.okWide, Cell.ok] at hval
      obtain ⟨hle, _, _, hs, row, cells, hshape, _⟩ := hval
      unfold World.shape? at hshape
      split at hshape
      · rename_i hw; have := (Array.getElem?_eq_some_iff.1 hw).1; omega
      · cases hshape
  obtain ⟨v, l, hv, h1, h2, h3, _⟩ := open_cell2 (E := E) (R := R) (e' := e') ht hC dec hpos hf
  have hv : Value.slice a0 len0 cap0 = v := by simpa [Value.cells] using hv
  subst hv
  exact ⟨l, h1, h2, h3⟩

theorem dec_u8 {e : TypeId} (he : P.underlying e = some (.int .u8)) {cs : List Value} {n : Nat} {y : DataW H × List MemPlace} (h : DataW.trod enc P W 0 (fun _ => true) true n e cs = some y) (hl : cs.length = EB.w) :
    ∃ a : UInt8, cs.map (conv2 W.heap.size) = EB.enc a ∧ True := by
  obtain ⟨c, rfl⟩ : ∃ c, cs = [c] := by
    match cs, hl with
    | [c], _ => exact ⟨_, rfl⟩
  obtain ⟨i, rfl, hw⟩ := dec_int he h
  have hw : 0 ≤ i ∧ i < 256 := by
    simp [Lit.wf, IntKind.min, IntKind.max, IntKind.signed, IntKind.bits] at hw
    omega
  refine ⟨UInt8.ofNat i.toNat, ?_, trivial⟩
  show [Value.int .u8 i] = [byteCell (UInt8.ofNat i.toNat)]
  unfold byteCell
  have : i.toNat < 256 := by omega
  rw [UInt8.toNat_ofNat_of_lt' this]
  congr 2
  omega
end

end Go.Proofs.Ytehnchfnhbmkdaa.Eng

/-
  Chapter 48: bytes: check numbers, numbers in bytes.
  Conditions: none. By an AI agent.
-/
set_option maxRecDepth 10000
set_option linter.unusedSimpArgs false
set_option linter.unusedVariables false
namespace Go.Proofs.Ytehnchfnhbmkdaa
open Go Eng

abbrev Ok (H : AHeap) : Prop := ∀ b, H.ver b < H.clk
theorem drop_cons {α : Type} {l : List α} {i : Nat} {a : α} {x : List α} (h : l.drop i = a :: x) : ∃ h : i < l.length, l[i] = a ∧ l.drop (i + 1) = x := by
  have hlt : i < l.length := by
    rcases Nat.lt_or_ge i l.length with h1 | h1
    · exact h1
    · rw [List.drop_eq_nil_of_le h1] at h; cases h
  rw [List.drop_eq_getElem_cons hlt] at h
  exact ⟨hlt, (List.cons.inj h).1, (List.cons.inj h).2⟩

/-! ### The check number -/
def ckS (p : Int × Int) (c : UInt8) : Int × Int := ((p.1 + c.toNat) % 65521, (p.2 + (p.1 + c.toNat) % 65521) % 65521)
def ck (l : List UInt8) : Int × Int := l.foldl ckS (1, 0)
def adl (l : List UInt8) : Int := 65536 * (ck l).2 + (ck l).1
theorem ckS_lt {p : Int × Int} {c : UInt8} : 0 ≤ (ckS p c).1 ∧ (ckS p c).1 < 65521 ∧ 0 ≤ (ckS p c).2 ∧ (ckS p c).2 < 65521 := by
  unfold ckS
  simp only
  omega
theorem ck_lt : ∀ (l : List UInt8) (p : Int × Int), (0 ≤ p.1 ∧ p.1 < 65521 ∧ 0 ≤ p.2 ∧ p.2 < 65521) → 0 ≤ (l.foldl ckS p).1 ∧ (l.foldl ckS p).1 < 65521 ∧ 0 ≤ (l.foldl ckS p).2 ∧ (l.foldl ckS p).2 < 65521
  | [], _, h => h
  | c :: l, p, _ => ck_lt l (ckS p c) ckS_lt
theorem adl_lt (l : List UInt8) : 0 ≤ adl l ∧ adl l < 4294967296 := by
  have := ck_lt l (1, 0) (by simp)
  unfold adl ck
  omega

theorem l_check (l : List UInt8) (v : Value) (H : AHeap) (hr : Rd EB H v l) (hl : l.length ≤ 1000000000000) : ∀ (t : List UInt8) (i : Nat) (x y : Int), l.drop i = t → 0 ≤ x → x < 65521 → 0 ≤ y → y < 65521 → ∀ K : K,
    l_law_check_0 v (.int .i64 x) (.int .i64 y) (.int .i64 (i : Int)) H (blkK [3, 4] 0 K) = K .normal [(3, .int .i64 (t.foldl ckS (x, y)).1), (4, .int .i64 (t.foldl ckS (x, y)).2)] H
  | [], i, x, y, hx, _, _, _, _, K => by
    have h : l.length ≤ i := List.drop_eq_nil_iff.1 hx
    have hlt : ¬ (i : Int) < (l.length : Int) := by omega
    have hlen := hr.lenS
    rw [r_law_check_0]
    simp (disch := first | with_reducible rfl | assumption | omega | rfl | (simp only [go_sem]; first | done | omega)) only [go_sem, ↓reduceIte, reduceCtorEq, Nat.reduceEqDiff, Nat.reduceAdd, Nat.reduceSub, Nat.reduceMul, Nat.reduceDiv, Nat.reduceMod, Nat.reduceLeDiff, Nat.reduceLT, Nat.reduceBEq, Int.reduceEq, Int.reduceBEq, Int.reduceBNe, Int.reduceLT, Int.reduceLE, Int.reduceAdd, Int.reduceSub, Int.reduceNeg, Int.reduceToNat, Int.reducePow, Nat.reducePow, Int.reduceMul, Int.reduceDiv, ↓s_law_check_b0, hlen, hlt]
  | c :: t, i, x, y, hx, hx0, hx1, hy0, hy1, K => by
    obtain ⟨h, hxa, hx'⟩ := drop_cons hx
    have hlt : (i : Int) < (l.length : Int) := by omega
    have hlen := hr.lenS
    obtain ⟨b, o, hix, hc, _⟩ := Rd.byte hr h
    rw [hxa] at hc
    have hb := u8_lt c
    have ih := l_check l v H hr hl t (i + 1) (ckS (x, y) c).1 (ckS (x, y) c).2 hx' ckS_lt.1 ckS_lt.2.1 ckS_lt.2.2.1 ckS_lt.2.2.2 K
    rw [r_law_check_0]
    simp (disch := first | with_reducible rfl | assumption | omega | rfl | (simp only [go_sem]; first | done | omega)) only [go_sem, ↓reduceIte, reduceCtorEq, Nat.reduceEqDiff, Nat.reduceAdd, Nat.reduceSub, Nat.reduceMul, Nat.reduceDiv, Nat.reduceMod, Nat.reduceLeDiff, Nat.reduceLT, Nat.reduceBEq, Int.reduceEq, Int.reduceBEq, Int.reduceBNe, Int.reduceLT, Int.reduceLE, Int.reduceAdd, Int.reduceSub, Int.reduceNeg, Int.reduceToNat, Int.reducePow, Nat.reducePow, Int.reduceMul, Int.reduceDiv, ↓s_law_check_b0, hlen, hlt, hix, hc, x_uint8_int]
    exact ih

theorem q_lcheck (l : List UInt8) (v : Value) (H : AHeap) (hr : Rd EB H v l) (hl : l.length ≤ 1000000000000) : CC F.law_check [v] H = some (.int .i64 (adl l), H) := by
  have hlp : ∀ K : K, l_law_check_0 v (.int .i64 1) (.int .i64 0) (.int .i64 0) H (blkK [3, 4] 0 K) = K .normal [(3, .int .i64 (l.foldl ckS (1, 0)).1), (4, .int .i64 (l.foldl ckS (1, 0)).2)] H := l_check l v H hr hl l 0 1 0 (by simp) (by decide) (by decide) (by decide) (by decide)
  have hb := ck_lt l (1, 0) (by simp)
  unfold adl
  have e : (l.foldl ckS (1, 0)) = ck l := rfl
  rw [e] at hb hlp
  apply pure_of _ (d_law_check _ H) rfl
  rotate_left 2
  · simp (disch := first | with_reducible rfl | assumption | omega | rfl | (simp only [go_sem]; first | done | omega)) only [go_sem, ↓reduceIte, reduceCtorEq, Nat.reduceEqDiff, Nat.reduceAdd, Nat.reduceSub, Nat.reduceMul, Nat.reduceDiv, Nat.reduceMod, Nat.reduceLeDiff, Nat.reduceLT, Nat.reduceBEq, Int.reduceEq, Int.reduceBEq, Int.reduceBNe, Int.reduceLT, Int.reduceLE, Int.reduceAdd, Int.reduceSub, Int.reduceNeg, Int.reduceToNat, Int.reducePow, Nat.reducePow, Int.reduceMul, Int.reduceDiv, ↓s_law_check, hlp]
    rfl
  · (repeat (first | exact Fr.refl _ | refine Fr.push ?_ _ | refine Fr.set ?_ _ _ (by intro h; first | omega | (simp only [go_sem] at h; omega))))

theorem l_Check (l : List UInt8) (v : Value) (H : AHeap) (hr : Rd EB H v l) (hl : l.length ≤ 1000000000000) : ∀ (t : List UInt8) (i : Nat) (x y : Int), l.drop i = t → 0 ≤ x → x < 65521 → 0 ≤ y → y < 65521 → ∀ K : K,
    l_backup_Check_0 (.int .u32 x) (.int .u32 y) v (.int .i64 (l.length : Int)) (.int .i64 (i : Int)) H (blkK [3, 4] 0 K) = K .normal [(3, .int .u32 (t.foldl ckS (x, y)).1), (4, .int .u32 (t.foldl ckS (x, y)).2)] H
  | [], i, x, y, hx, _, _, _, _, K => by
    have h : l.length ≤ i := List.drop_eq_nil_iff.1 hx
    have hlt : ¬ (i : Int) < (l.length : Int) := by omega
    rw [r_backup_Check_0]
    simp (disch := first | with_reducible rfl | assumption | omega | rfl | (simp only [go_sem]; first | done | omega)) only [go_sem, ↓reduceIte, reduceCtorEq, Nat.reduceEqDiff, Nat.reduceAdd, Nat.reduceSub, Nat.reduceMul, Nat.reduceDiv, Nat.reduceMod, Nat.reduceLeDiff, Nat.reduceLT, Nat.reduceBEq, Int.reduceEq, Int.reduceBEq, Int.reduceBNe, Int.reduceLT, Int.reduceLE, Int.reduceAdd, Int.reduceSub, Int.reduceNeg, Int.reduceToNat, Int.reducePow, Nat.reducePow, Int.reduceMul, Int.reduceDiv, ↓s_backup_Check_b0, hlt]
  | c :: t, i, x, y, hx, hx0, hx1, hy0, hy1, K => by
    obtain ⟨h, hxa, hx'⟩ := drop_cons hx
    have hlt : (i : Int) < (l.length : Int) := by omega
    obtain ⟨b, o, hix, hc, _⟩ := Rd.byte hr h
    rw [hxa] at hc
    have hb := u8_lt c
    have ih := l_Check l v H hr hl t (i + 1) (ckS (x, y) c).1 (ckS (x, y) c).2 hx' ckS_lt.1 ckS_lt.2.1 ckS_lt.2.2.1 ckS_lt.2.2.2 K
    rw [r_backup_Check_0]
    simp (disch := first | with_reducible rfl | assumption | omega | rfl | (simp only [go_sem]; first | done | omega)) only [go_sem, ↓reduceIte, reduceCtorEq, Nat.reduceEqDiff, Nat.reduceAdd, Nat.reduceSub, Nat.reduceMul, Nat.reduceDiv, Nat.reduceMod, Nat.reduceLeDiff, Nat.reduceLT, Nat.reduceBEq, Int.reduceEq, Int.reduceBEq, Int.reduceBNe, Int.reduceLT, Int.reduceLE, Int.reduceAdd, Int.reduceSub, Int.reduceNeg, Int.reduceToNat, Int.reducePow, Nat.reducePow, Int.reduceMul, Int.reduceDiv, ↓s_backup_Check_b0, hlt, hix, hc, x_uint8_uint32]
    exact ih

theorem q_Check (l : List UInt8) (v : Value) (H : AHeap) (hr : Rd EB H v l) (hl : l.length ≤ 1000000000000) : CC F.backup_Check [v] H = some (.int .u32 (adl l), H) := by
  have hlp : ∀ K : K, l_backup_Check_0 (.int .u32 1) (.int .u32 0) v (.int .i64 (l.length : Int)) (.int .i64 0) H (blkK [3, 4] 0 K) = K .normal [(3, .int .u32 (l.foldl ckS (1, 0)).1), (4, .int .u32 (l.foldl ckS (1, 0)).2)] H := l_Check l v H hr hl l 0 1 0 (by simp) (by decide) (by decide) (by decide) (by decide)
  have hb := ck_lt l (1, 0) (by simp)
  have hlen := hr.lenS
  have e : (l.foldl ckS (1, 0)) = ck l := rfl
  rw [e] at hb hlp
  have h1 : ∀ ox oy, xbin Try.prog .shl T.uint32 ox oy (.int .u32 (ck l).2) (.int .u64 16) = some (.int .u32 ((ck l).2 * 65536)) := fun ox oy => shl32 (by decide) hb.2.2.1 (by show _ * 65536 < _; omega)
  have h2 : ∀ ox oy, xbin Try.prog .or T.uint32 ox oy (.int .u32 ((ck l).2 * 65536)) (.int .u32 (ck l).1) = some (.int .u32 ((ck l).2 * 65536 + (ck l).1)) := fun ox oy => or32 (k := 16) hb.2.2.1 ⟨hb.1, by omega⟩ (by omega)
  have h3 : adl l = (ck l).2 * 65536 + (ck l).1 := by unfold adl; omega
  rw [h3]
  apply pure_of _ (d_backup_Check _ H) rfl
  rotate_left 2
  · simp (disch := first | with_reducible rfl | assumption | omega | rfl | (simp only [go_sem]; first | done | omega)) only [go_sem, ↓reduceIte, reduceCtorEq, Nat.reduceEqDiff, Nat.reduceAdd, Nat.reduceSub, Nat.reduceMul, Nat.reduceDiv, Nat.reduceMod, Nat.reduceLeDiff, Nat.reduceLT, Nat.reduceBEq, Int.reduceEq, Int.reduceBEq, Int.reduceBNe, Int.reduceLT, Int.reduceLE, Int.reduceAdd, Int.reduceSub, Int.reduceNeg, Int.reduceToNat, Int.reducePow, Nat.reducePow, Int.reduceMul, Int.reduceDiv, ↓s_backup_Check, hlen, hlp, h1, h2]
    rfl
  · (repeat (first | exact Fr.refl _ | refine Fr.push ?_ _ | refine Fr.set ?_ _ _ (by intro h; first | omega | (simp only [go_sem] at h; omega))))

end Go.Proofs.Ytehnchfnhbmkdaa

/-
  Chapter 48: numbers in bytes; a piece's parts.
  Conditions: none. By an AI agent.
-/
set_option maxRecDepth 10000
set_option linter.unusedSimpArgs false
set_option linter.unusedVariables false
namespace Go.Proofs.Ytehnchfnhbmkdaa
open Go Eng

def u8 (m : Int) : UInt8 := UInt8.ofNat m.toNat
theorem u8_cell {m : Int} (h : 0 ≤ m ∧ m < 256) : byteCell (u8 m) = .int .u8 m := by
  unfold byteCell u8
  have : m.toNat < 256 := by omega
  rw [UInt8.toNat_ofNat_of_lt' this]
  congr 1
  omega
theorem u8_nat {m : Int} (h : 0 ≤ m ∧ m < 256) : ((u8 m).toNat : Int) = m := by
  unfold u8
  have : m.toNat < 256 := by omega
  rw [UInt8.toNat_ofNat_of_lt' this]
  omega
theorem u8_of (c : UInt8) : u8 (c.toNat : Int) = c := by unfold u8; simp

/-- A number in k bytes, the highest one first. -/
def be : Int → Nat → List UInt8
  | _, 0 => []
  | n, k + 1 => be (n / 256) k ++ [u8 (n % 256)]
theorem be_length : ∀ (k : Nat) (n : Int), (be n k).length = k
  | 0, _ => rfl
  | k + 1, n => by simp [be, be_length k]

def numS (n : Int) (c : UInt8) : Int := n * 256 + c.toNat
def numB (l : List UInt8) : Int := l.foldl numS 0
theorem numS_lt {n p : Int} {c : UInt8} (h : 0 ≤ n ∧ n < p) : 0 ≤ numS n c ∧ numS n c < p * 256 := by
  have := u8_lt c
  unfold numS
  omega
theorem num_lt : ∀ (l : List UInt8) (n : Int) (i : Nat), (0 ≤ n ∧ n < 256 ^ i) → 0 ≤ l.foldl numS n ∧ l.foldl numS n < 256 ^ (i + l.length)
  | [], n, i, h => by simpa using h
  | c :: l, n, i, h => by
    have := num_lt l (numS n c) (i + 1) (by rw [Int.pow_succ]; exact numS_lt h)
    rwa [show i + 1 + l.length = i + (c :: l).length by simp; omega] at this
theorem numB_lt (l : List UInt8) : 0 ≤ numB l ∧ numB l < 256 ^ l.length := by
  have := num_lt l 0 0 (by simp)
  rwa [Nat.zero_add] at this
theorem pow256 {i : Nat} (h : i ≤ 3) : (256 : Int) ^ i ≤ 16777216 := by
  have : i = 0 ∨ i = 1 ∨ i = 2 ∨ i = 3 := by omega
  rcases this with rfl | rfl | rfl | rfl <;> decide

theorem l_number (l : List UInt8) (v : Value) (H : AHeap) (hr : Rd EB H v l) (hl : l.length ≤ 4) : ∀ (t : List UInt8) (i : Nat) (n : Int), l.drop i = t → 0 ≤ n → n < 256 ^ i → ∀ K : K,
    l_backup_number_0 (.int .u32 n) v (.int .i64 (l.length : Int)) (.int .i64 (i : Int)) H (blkK [3] 0 K) = K .normal [(3, .int .u32 (t.foldl numS n))] H
  | [], i, n, hx, _, _, K => by
    have h : l.length ≤ i := List.drop_eq_nil_iff.1 hx
    have hlt : ¬ (i : Int) < (l.length : Int) := by omega
    rw [r_backup_number_0]
    simp (disch := first | with_reducible rfl | assumption | omega | rfl | (simp only [go_sem]; first | done | omega)) only [go_sem, ↓reduceIte, reduceCtorEq, Nat.reduceEqDiff, Nat.reduceAdd, Nat.reduceSub, Nat.reduceMul, Nat.reduceDiv, Nat.reduceMod, Nat.reduceLeDiff, Nat.reduceLT, Nat.reduceBEq, Int.reduceEq, Int.reduceBEq, Int.reduceBNe, Int.reduceLT, Int.reduceLE, Int.reduceAdd, Int.reduceSub, Int.reduceNeg, Int.reduceToNat, Int.reducePow, Nat.reducePow, Int.reduceMul, Int.reduceDiv, ↓s_backup_number_b0, hlt]
  | c :: t, i, n, hx, h0, h1, K => by
    obtain ⟨h, hxa, hx'⟩ := drop_cons hx
    have hlt : (i : Int) < (l.length : Int) := by omega
    obtain ⟨b, o, hix, hc, _⟩ := Rd.byte hr h
    rw [hxa] at hc
    have hb := u8_lt c
    have hp := pow256 (i := i) (by omega)
    have hn := numS_lt (c := c) ⟨h0, h1⟩
    have ih := l_number l v H hr hl t (i + 1) (numS n c) hx' hn.1 (by rw [Int.pow_succ]; exact hn.2) K
    have e1 : ∀ ox oy, xbin Try.prog .shl T.uint32 ox oy (.int .u32 n) (.int .u64 8) = some (.int .u32 (n * 256)) := fun ox oy => shl32 (by decide) h0 (by show _ * 256 < _; omega)
    have e2 : ∀ ox oy, xbin Try.prog .or T.uint32 ox oy (.int .u32 (n * 256)) (.int .u32 (c.toNat : Int)) = some (.int .u32 (numS n c)) := fun ox oy => or32 (k := 8) h0 hb (by show n * 256 + _ < _; omega)
    rw [r_backup_number_0]
    simp (disch := first | with_reducible rfl | assumption | omega | rfl | (simp only [go_sem]; first | done | omega)) only [go_sem, ↓reduceIte, reduceCtorEq, Nat.reduceEqDiff, Nat.reduceAdd, Nat.reduceSub, Nat.reduceMul, Nat.reduceDiv, Nat.reduceMod, Nat.reduceLeDiff, Nat.reduceLT, Nat.reduceBEq, Int.reduceEq, Int.reduceBEq, Int.reduceBNe, Int.reduceLT, Int.reduceLE, Int.reduceAdd, Int.reduceSub, Int.reduceNeg, Int.reduceToNat, Int.reducePow, Nat.reducePow, Int.reduceMul, Int.reduceDiv, ↓s_backup_number_b0, hlt, hix, hc, x_uint8_uint32, e1, e2]
    exact ih

theorem q_number (l : List UInt8) (v : Value) (H : AHeap) (hr : Rd EB H v l) (hl : l.length ≤ 4) : CC F.backup_number [v] H = some (.int .u32 (numB l), H) := by
  have hlp : ∀ K : K, l_backup_number_0 (.int .u32 0) v (.int .i64 (l.length : Int)) (.int .i64 0) H (blkK [3] 0 K) = K .normal [(3, .int .u32 (l.foldl numS 0))] H := l_number l v H hr hl l 0 0 (by simp) (by decide) (by decide)
  have hlen := hr.lenS
  apply pure_of _ (d_backup_number _ H) rfl
  rotate_left 2
  · simp (disch := first | with_reducible rfl | assumption | omega | rfl | (simp only [go_sem]; first | done | omega)) only [go_sem, ↓reduceIte, reduceCtorEq, Nat.reduceEqDiff, Nat.reduceAdd, Nat.reduceSub, Nat.reduceMul, Nat.reduceDiv, Nat.reduceMod, Nat.reduceLeDiff, Nat.reduceLT, Nat.reduceBEq, Int.reduceEq, Int.reduceBEq, Int.reduceBNe, Int.reduceLT, Int.reduceLE, Int.reduceAdd, Int.reduceSub, Int.reduceNeg, Int.reduceToNat, Int.reducePow, Nat.reducePow, Int.reduceMul, Int.reduceDiv, ↓s_backup_number, hlen, hlp]
    rfl
  · (repeat (first | exact Fr.refl _ | refine Fr.push ?_ _ | refine Fr.set ?_ _ _ (by intro h; first | omega | (simp only [go_sem] at h; omega))))

theorem be4 (n : Int) : be n 4 = [u8 (n / 256 / 256 / 256 % 256), u8 (n / 256 / 256 % 256), u8 (n / 256 % 256), u8 (n % 256)] := by simp [be]
theorem be2 (n : Int) : be n 2 = [u8 (n / 256 % 256), u8 (n % 256)] := by simp [be]
theorem mod256 (n : Int) : 0 ≤ n % 256 ∧ n % 256 < 256 := by omega
theorem cells4 (n : Int) : EB.cells (be n 4) = [.int .u8 (n / 256 / 256 / 256 % 256), .int .u8 (n / 256 / 256 % 256), .int .u8 (n / 256 % 256), .int .u8 (n % 256)] := by
  rw [be4, EB_cells]
  simp only [List.map_cons, List.map_nil, u8_cell (mod256 _)]

/-- A new row of bytes. -/
theorem newB {H : AHeap} {l : List UInt8} {b : Nat} (hb : b < H.n) (hf : H.f b = .cells (EB.cells l) T.uint8 true) : RdS EB T.uint8 H (.slice (some ⟨b, 0, none⟩) l.length (2 * l.length)) l := by
  refine ⟨?_, .inr ⟨b, 0, _, _, rfl, by omega, .inl (by omega), hb⟩⟩
  by_cases h0 : l = []
  · subst h0; exact .inr (.inl ⟨rfl, _, _, rfl, rfl⟩)
  · refine .inr (.inr ⟨b, 0, _, rfl, h0, hb, ?_⟩)
    rw [hf, cutB_c (by simp), List.drop_zero, List.take_of_length_le (by simp)]

theorem q_four (n : Int) (H : AHeap) (h0 : 0 ≤ n) (h1 : n < 4294967296) : CC F.backup_four [.int .u32 n] H = some (.slice (some ⟨H.n, 0, none⟩) 4 8, H.push (.cells (EB.cells (be n 4)) T.uint8 true)) := by
  have e24 : ∀ ox oy, xbin Try.prog .shr T.uint32 ox oy (.int .u32 n) (.int .u64 24) = some (.int .u32 (n / 16777216)) := fun ox oy => shrP (by decide)
  have e16 : ∀ ox oy, xbin Try.prog .shr T.uint32 ox oy (.int .u32 n) (.int .u64 16) = some (.int .u32 (n / 65536)) := fun ox oy => shrP (by decide)
  have e8 : ∀ ox oy, xbin Try.prog .shr T.uint32 ox oy (.int .u32 n) (.int .u64 8) = some (.int .u32 (n / 256)) := fun ox oy => shrP (by decide)
  have d1 : n / 256 / 256 / 256 = n / 16777216 := by omega
  have d2 : n / 256 / 256 = n / 65536 := by omega
  rw [cells4, d1, d2]
  refine (d_backup_four _ H ?_).trans (congrArg some (tidy_mem rfl))
  simp (disch := first | with_reducible rfl | assumption | omega | rfl | (simp only [go_sem]; first | done | omega)) only [go_sem, ↓reduceIte, reduceCtorEq, Nat.reduceEqDiff, Nat.reduceAdd, Nat.reduceSub, Nat.reduceMul, Nat.reduceDiv, Nat.reduceMod, Nat.reduceLeDiff, Nat.reduceLT, Nat.reduceBEq, Int.reduceEq, Int.reduceBEq, Int.reduceBNe, Int.reduceLT, Int.reduceLE, Int.reduceAdd, Int.reduceSub, Int.reduceNeg, Int.reduceToNat, Int.reducePow, Nat.reducePow, Int.reduceMul, Int.reduceDiv, ↓s_backup_four, e24, e16, e8, x_uint32_uint8, wrapU8]

/-! ### many -/
theorem l_many (b k : Nat) (c : Nat) (hk : k ≤ 8) : ∀ (t : Nat) (n : Int) (H : AHeap) (xs : List Value), H.f b = .cells xs T.uint8 true → xs.length = k → t ≤ k → b < H.n → 0 ≤ n → n < 9223372036854775808 →
    ∃ H', (∀ K : K, l_law_many_0 (.int .i64 n) (.slice (some ⟨b, 0, none⟩) k c) (.int .i64 ((t : Int) - 1)) H (blkK [5] 0 K) = K .normal [(5, .slice (some ⟨b, 0, none⟩) k c)] H') ∧
      H'.f b = .cells (EB.cells (be n t) ++ xs.drop t) T.uint8 true ∧ Fr (fun x => x = b) H H' ∧ H'.n = H.n
  | 0, n, H, xs, hf, hx, ht, hb, h0, h1 => by
    have hge : ¬ (0 : Int) ≤ ((0 : Nat) : Int) - 1 := by omega
    refine ⟨H, fun K => ?_, by simpa [be] using hf, Fr.refl H, rfl⟩
    rw [r_law_many_0]
    have hge : ¬ (0 : Int) ≤ 0 - 1 := by omega
    simp (disch := first | with_reducible rfl | assumption | omega | rfl | (simp only [go_sem]; first | done | omega)) only [go_sem, ↓reduceIte, reduceCtorEq, Nat.reduceEqDiff, Nat.reduceAdd, Nat.reduceSub, Nat.reduceMul, Nat.reduceDiv, Nat.reduceMod, Nat.reduceLeDiff, Nat.reduceLT, Nat.reduceBEq, Int.reduceEq, Int.reduceBEq, Int.reduceBNe, Int.reduceLT, Int.reduceLE, Int.reduceAdd, Int.reduceSub, Int.reduceNeg, Int.reduceToNat, Int.reducePow, Nat.reducePow, Int.reduceMul, Int.reduceDiv, ↓s_law_many_b0, Int.natCast_zero, hge]
  | t + 1, n, H, xs, hf, hx, ht, hb, h0, h1 => by
    have htk : t < k := by omega
    have e1 : ((t + 1 : Nat) : Int) - 1 = (t : Int) := by omega
    have hge : (0 : Int) ≤ (t : Int) := by omega
    have hix : ixS 1 (.slice (some ⟨b, 0, none⟩) k c) (.int .i64 (t : Int)) = some (.pointer (some ⟨b, t, none⟩)) := by
      have := ixS_nat (sz := 1) (b := b) (o := 0) (code := c) (q := .i64) htk
      rwa [Nat.zero_add, Nat.mul_one] at this
    obtain ⟨H1, hH1⟩ : ∃ H1, H.set b (.cells (xs.set t (.int .u8 (n % 256))) T.uint8 true) = H1 := ⟨_, rfl⟩
    have hw : setB H b (wr1 (H.f b) t (.int .u8 (n % 256))) = some H1 := by
      rw [hf, wr1_c (by omega) rfl, setB_s, hH1]
    have f1 : H1.f b = .cells (xs.set t (.int .u8 (n % 256))) T.uint8 true := by rw [← hH1]; exact set_f_eq
    have n1 : H1.n = H.n := by rw [← hH1]; rfl
    have fr1 : Fr (fun x => x = b) H H1 := by rw [← hH1]; exact Fr.set (Fr.refl H) _ _ fun _ => rfl
    have q1 : ∀ ox oy, xbin Try.prog .quo T.int ox oy (.int .i64 n) (.int .i64 256) = some (.int .i64 (n / 256)) := fun ox oy => quoI h0 (by decide) h1
    obtain ⟨H', hl, hf', hfr, hn'⟩ := l_many b k c hk t (n / 256) H1 _ f1 (by simpa using hx) (by omega) (by omega) (by omega) (by omega)
    refine ⟨H', fun K => ?_, ?_, fr1.trans hfr, by omega⟩
    · rw [r_law_many_0, e1]
      have hm : IntKind.wrap .u8 (n % 256) = n % 256 := wrap_u8 (mod256 n)
      simp (disch := first | with_reducible rfl | assumption | omega | rfl | (simp only [go_sem]; first | done | omega)) only [go_sem, ↓reduceIte, reduceCtorEq, Nat.reduceEqDiff, Nat.reduceAdd, Nat.reduceSub, Nat.reduceMul, Nat.reduceDiv, Nat.reduceMod, Nat.reduceLeDiff, Nat.reduceLT, Nat.reduceBEq, Int.reduceEq, Int.reduceBEq, Int.reduceBNe, Int.reduceLT, Int.reduceLE, Int.reduceAdd, Int.reduceSub, Int.reduceNeg, Int.reduceToNat, Int.reducePow, Nat.reducePow, Int.reduceMul, Int.reduceDiv, ↓s_law_many_b0, hge, x_int_uint8, hm, hix, hw, q1]
      exact hl K
    · rw [hf']
      congr 1
      rw [be, Enc.cells_append, List.append_assoc]
      congr 1
      rw [EB_cells]
      simp only [List.map_cons, List.map_nil, u8_cell (mod256 n), List.singleton_append]
      rw [List.drop_eq_getElem_cons (by simp; omega), List.getElem_set_self, List.drop_set_of_lt (by omega)]

theorem q_many (n : Int) (k : Nat) (H : AHeap) (h0 : 0 ≤ n) (h1 : n < 9223372036854775808) (hk : k ≤ 8) :
    ∃ H', CC F.law_many [.int .i64 n, .int .i64 (k : Int)] H = some (.slice (some ⟨H.n, 0, none⟩) k (2 * k), H') ∧ H'.f H.n = .cells (EB.cells (be n k)) T.uint8 true ∧ Still H H' ∧ H'.n = H.n + 1 := by
  obtain ⟨H1, hH1⟩ : ∃ H1, H.push (.cells (zeros [.int .u8 0] k) T.uint8 true) = H1 := ⟨_, rfl⟩
  have f1 : H1.f H.n = .cells (zeros [.int .u8 0] k) T.uint8 true := by rw [← hH1]; exact push_f_eq rfl
  have n1 : H1.n = H.n + 1 := by rw [← hH1]; rfl
  have s1 : Still H H1 := by rw [← hH1]; exact (Fr.refl H).push _
  have hmk : mkS T.uint8 [.int .u8 0] 1 (.int .i64 (k : Int)) (.int .i64 (k : Int)) H = some (.slice (some ⟨H.n, 0, none⟩) k (2 * k), H1) := by
    unfold mkS
    simp only [Int.toNat_natCast]
    rw [if_pos ⟨by omega, by omega, by omega, by omega⟩, hH1]
  have hz : (zeros [.int .u8 0] k : List Value).length = k := by rw [zeros_length]; simp
  obtain ⟨H', hl, hf', hfr, hn'⟩ := l_many H.n k (2 * k) hk k n H1 _ f1 hz (Nat.le_refl _) (by omega) h0 h1
  refine ⟨H', ?_, ?_, s1.then hfr (fun b hb h => by omega), by omega⟩
  · refine (d_law_many _ _ H ?_).trans (congrArg some (tidy_mem (v := .slice (some ⟨H.n, 0, none⟩) k (2 * k)) (H' := H') rfl))
    simp (disch := first | with_reducible rfl | assumption | omega | rfl | (simp only [go_sem]; first | done | omega)) only [go_sem, ↓reduceIte, reduceCtorEq, Nat.reduceEqDiff, Nat.reduceAdd, Nat.reduceSub, Nat.reduceMul, Nat.reduceDiv, Nat.reduceMod, Nat.reduceLeDiff, Nat.reduceLT, Nat.reduceBEq, Int.reduceEq, Int.reduceBEq, Int.reduceBNe, Int.reduceLT, Int.reduceLE, Int.reduceAdd, Int.reduceSub, Int.reduceNeg, Int.reduceToNat, Int.reducePow, Nat.reducePow, Int.reduceMul, Int.reduceDiv, ↓s_law_many, hmk, hl]
  · rw [hf', List.drop_eq_nil_of_le (by rw [hz]; exact Nat.le_refl _), List.append_nil]

/-! ### The parts of a piece -/
def prX (p : List UInt8) : Int := numB (p.take 4)
def prI (p : List UInt8) : Int := numB ((p.drop 4).take 2)
def prN (p : List UInt8) : Int := numB ((p.drop 6).take 2)
def okP (p : List UInt8) : Bool := decide (8 ≤ p.length) && decide (prI p < prN p)
theorem pr_lt (p : List UInt8) : (0 ≤ prX p ∧ prX p < 4294967296) ∧ (0 ≤ prI p ∧ prI p < 65536) ∧ (0 ≤ prN p ∧ prN p < 65536) := by
  have key : ∀ (l : List UInt8) (k : Nat), l.length ≤ k → k ≤ 4 → 0 ≤ numB l ∧ numB l < 256 ^ k := fun l k h hk => by
    have := numB_lt l
    refine ⟨this.1, Int.lt_of_lt_of_le this.2 ?_⟩
    have h2 : 256 ^ l.length ≤ 256 ^ k := Nat.pow_le_pow_right (by decide) h
    exact_mod_cast h2
  exact ⟨key _ 4 (by simp; omega) (by decide), key _ 2 (by simp; omega) (by decide), key _ 2 (by simp; omega) (by decide)⟩

theorem q_part_short (p : List UInt8) (v : Value) (H : AHeap) (hr : Rd EB H v p) (hl : p.length < 8) :
    CC F.law_part [v] H = some (.tuple #[.int .i64 0, .int .i64 0, .int .i64 0, .string (mk []), .bool false], H) := by
  have hlen := hr.lenS
  have hlt : (p.length : Int) < 8 := by omega
  apply pure_of _ (d_law_part _ H) rfl
  rotate_left 2
  · simp (disch := first | with_reducible rfl | assumption | omega | rfl | (simp only [go_sem]; first | done | omega)) only [go_sem, ↓reduceIte, reduceCtorEq, Nat.reduceEqDiff, Nat.reduceAdd, Nat.reduceSub, Nat.reduceMul, Nat.reduceDiv, Nat.reduceMod, Nat.reduceLeDiff, Nat.reduceLT, Nat.reduceBEq, Int.reduceEq, Int.reduceBEq, Int.reduceBNe, Int.reduceLT, Int.reduceLE, Int.reduceAdd, Int.reduceSub, Int.reduceNeg, Int.reduceToNat, Int.reducePow, Nat.reducePow, Int.reduceMul, Int.reduceDiv, ↓s_law_part, hlen, hlt]
    rfl
  · (repeat (first | exact Fr.refl _ | refine Fr.push ?_ _ | refine Fr.set ?_ _ _ (by intro h; first | omega | (simp only [go_sem] at h; omega))))

theorem q_part (p : List UInt8) (v : Value) (H : AHeap) (hr : RdS EB T.uint8 H v p) (hl : 8 ≤ p.length) :
    CC F.law_part [v] H = some (.tuple #[.int .i64 (prX p), .int .i64 (prI p), .int .i64 (prN p), .string (mk (p.drop 8)), .bool (decide (prI p < prN p))], H) := by
  have hlen := hr.1.lenS
  have hlt : ¬ (p.length : Int) < 8 := by omega
  obtain ⟨b0, o0, i0, c0, _⟩ := Rd.byte hr.1 (i := 0) (by omega)
  obtain ⟨b1, o1, i1, c1, _⟩ := Rd.byte hr.1 (i := 1) (by omega)
  obtain ⟨b2, o2, i2, c2, _⟩ := Rd.byte hr.1 (i := 2) (by omega)
  obtain ⟨b3, o3, i3, c3, _⟩ := Rd.byte hr.1 (i := 3) (by omega)
  obtain ⟨b4, o4, i4, c4, _⟩ := Rd.byte hr.1 (i := 4) (by omega)
  obtain ⟨b5, o5, i5, c5, _⟩ := Rd.byte hr.1 (i := 5) (by omega)
  obtain ⟨b6, o6, i6, c6, _⟩ := Rd.byte hr.1 (i := 6) (by omega)
  obtain ⟨b7, o7, i7, c7, _⟩ := Rd.byte hr.1 (i := 7) (by omega)
  obtain ⟨v8, s8, r8, _⟩ := hr.from (sz := 1) rfl (i := 8) (q := .i64) hl
  have cv := conv_bs (P := Try.prog) (t := T.sl_uint8) (s := T.string) (e := T.uint8) Try.underlying22 Try.underlying5 Try.underlying9 r8.1
  have i0 : ixS 1 v (.int .i64 0) = some (.pointer (some ⟨b0, o0, none⟩)) := i0
  have i1 : ixS 1 v (.int .i64 1) = some (.pointer (some ⟨b1, o1, none⟩)) := i1
  have i2 : ixS 1 v (.int .i64 2) = some (.pointer (some ⟨b2, o2, none⟩)) := i2
  have i3 : ixS 1 v (.int .i64 3) = some (.pointer (some ⟨b3, o3, none⟩)) := i3
  have i4 : ixS 1 v (.int .i64 4) = some (.pointer (some ⟨b4, o4, none⟩)) := i4
  have i5 : ixS 1 v (.int .i64 5) = some (.pointer (some ⟨b5, o5, none⟩)) := i5
  have i6 : ixS 1 v (.int .i64 6) = some (.pointer (some ⟨b6, o6, none⟩)) := i6
  have i7 : ixS 1 v (.int .i64 7) = some (.pointer (some ⟨b7, o7, none⟩)) := i7
  have s8 : slS T.uint8 1 v (some (.int .i64 8)) none none H = some v8 := s8
  obtain ⟨n, hn⟩ : ∃ n, p.length = n := ⟨_, rfl⟩
  rw [hn] at hlen hlt
  clear hn
  obtain ⟨a0, a1, a2, a3, a4, a5, a6, a7, r, rfl⟩ : ∃ a0 a1 a2 a3 a4 a5 a6 a7 r, p = a0 :: a1 :: a2 :: a3 :: a4 :: a5 :: a6 :: a7 :: r := by
    match p, hl with
    | a0 :: a1 :: a2 :: a3 :: a4 :: a5 :: a6 :: a7 :: r, _ => exact ⟨a0, a1, a2, a3, a4, a5, a6, a7, r, rfl⟩
  have hx : prX (a0 :: a1 :: a2 :: a3 :: a4 :: a5 :: a6 :: a7 :: r) = (((a0.toNat : Int) * 256 + a1.toNat) * 256 + a2.toNat) * 256 + a3.toNat := by simp [prX, numB, numS]
  have hi : prI (a0 :: a1 :: a2 :: a3 :: a4 :: a5 :: a6 :: a7 :: r) = (a4.toNat : Int) * 256 + a5.toNat := by simp [prI, numB, numS]
  have hn : prN (a0 :: a1 :: a2 :: a3 :: a4 :: a5 :: a6 :: a7 :: r) = (a6.toNat : Int) * 256 + a7.toNat := by simp [prN, numB, numS]
  rw [hx, hi, hn]
  simp only [List.getElem_cons_zero, List.getElem_cons_succ] at c0 c1 c2 c3 c4 c5 c6 c7
  have b0' := u8_lt a0
  have b1' := u8_lt a1
  have b2' := u8_lt a2
  have b3' := u8_lt a3
  have b4' := u8_lt a4
  have b5' := u8_lt a5
  have b6' := u8_lt a6
  have b7' := u8_lt a7
  apply pure_of _ (d_law_part _ H) rfl
  rotate_left 2
  · simp (disch := first | with_reducible rfl | assumption | omega | rfl | (simp only [go_sem]; first | done | omega)) only [go_sem, ↓reduceIte, reduceCtorEq, Nat.reduceEqDiff, Nat.reduceAdd, Nat.reduceSub, Nat.reduceMul, Nat.reduceDiv, Nat.reduceMod, Nat.reduceLeDiff, Nat.reduceLT, Nat.reduceBEq, Int.reduceEq, Int.reduceBEq, Int.reduceBNe, Int.reduceLT, Int.reduceLE, Int.reduceAdd, Int.reduceSub, Int.reduceNeg, Int.reduceToNat, Int.reducePow, Nat.reducePow, Int.reduceMul, Int.reduceDiv, ↓s_law_part, hlen, hlt, i0, i1, i2, i3, i4, i5, i6, i7, c0, c1, c2, c3, c4, c5, c6, c7, x_uint8_int, s8, cv]
    rfl
  · (repeat (first | exact Fr.refl _ | refine Fr.push ?_ _ | refine Fr.set ?_ _ _ (by intro h; first | omega | (simp only [go_sem] at h; omega))))

end Go.Proofs.Ytehnchfnhbmkdaa

/-
  Chapter 48: lists of bytes that lie one by one; comparing them; the law's own pieces.
  Conditions: none. By an AI agent.
-/
set_option maxRecDepth 10000
set_option linter.unusedSimpArgs false
set_option linter.unusedVariables false
namespace Go.Proofs.Ytehnchfnhbmkdaa
open Go Eng

theorem k_known (H : AHeap) : CC F.law_known [] H = some (.bool true, H) := D_prim (show prims1 F.law_known = some trueP by kernel_rfl) rfl
@[go_sem, go_sem ↓] theorem e_known {H : AHeap} {k : Value → AHeap → Res} : enterK CC F.law_known [] H k = k (.bool true) H := enterK_eq (k_known H)

/-- A slice as an element. -/
structure Sl where
  a : Option Addr
  n : Nat
  c : Nat
def Sl.v (s : Sl) : Value := .slice s.a s.n s.c
def ESl : Enc Sl := ⟨1, fun s => [s.v], fun _ => rfl, by decide, fun _ => rfl⟩

abbrev BR (H : AHeap) (v : Value) (l : List UInt8) : Prop := RdS EB T.uint8 H v l

/-- The elements read as lists of bytes. -/
def Els (H : AHeap) : List Sl → List (List UInt8) → Prop
  | [], [] => True
  | s :: sl, l :: ls => BR H s.v l ∧ Els H sl ls
  | _, _ => False
theorem Els.keep {S : Nat → Prop} {H H' : AHeap} (h : Fr S H H') : ∀ {sl : List Sl} {ls : List (List UInt8)}, Els H sl ls → (∀ s ∈ sl, Off S s.v) → Els H' sl ls
  | [], [], _, _ => trivial
  | s :: sl, l :: ls, e, ho => ⟨e.1.keep h (ho s (by simp)), Els.keep h e.2 fun x hx => ho x (by simp [hx])⟩
  | [], _ :: _, e, _ => e
  | _ :: _, [], e, _ => e
theorem Els.still {H H' : AHeap} (h : Still H H') {sl : List Sl} {ls : List (List UInt8)} (e : Els H sl ls) : Els H' sl ls := e.keep h fun _ _ _ _ h => h
theorem Els.len {H : AHeap} : ∀ {sl : List Sl} {ls : List (List UInt8)}, Els H sl ls → sl.length = ls.length
  | [], [], _ => rfl
  | _ :: _, _ :: _, e => by simp [Els.len e.2]
  | [], _ :: _, e => e.elim
  | _ :: _, [], e => e.elim
theorem Els.at {H : AHeap} : ∀ {sl : List Sl} {ls : List (List UInt8)}, Els H sl ls → ∀ {i : Nat} (h : i < sl.length) (h' : i < ls.length), BR H sl[i].v ls[i]
  | s :: sl, l :: ls, e, 0, _, _ => e.1
  | s :: sl, l :: ls, e, i + 1, h, h' => Els.at e.2 (by simpa using h) (by simpa using h')
  | [], _, _, _, h, _ => by simp at h
  | _ :: _, [], e, _, _, _ => e.elim
theorem Els.app {H : AHeap} : ∀ {sl sm : List Sl} {ls ms : List (List UInt8)}, Els H sl ls → Els H sm ms → Els H (sl ++ sm) (ls ++ ms)
  | [], _, [], _, _, e => e
  | _ :: _, _, _ :: _, _, e, e' => ⟨e.1, Els.app e.2 e'⟩
  | [], _, _ :: _, _, e, _ => e.elim
  | _ :: _, _, [], _, e, _ => e.elim
theorem Els.blk {H : AHeap} : ∀ {sl : List Sl} {ls : List (List UInt8)}, Els H sl ls → ∀ s ∈ sl, ∀ b, blockOf s.v = some b → b < H.n
  | s :: sl, l :: ls, e, x, hx, b, hb => by
    rcases List.mem_cons.1 hx with rfl | hx
    · rcases e.1.2 with h | ⟨b', o, n, code, h, _, _, h3⟩
      · rw [h] at hb; cases hb
      · rw [h] at hb; cases hb; exact h3
    · exact Els.blk e.2 x hx b hb
  | [], _, _, _, hx, _, _ => by simp at hx
  | _ :: _, [], e, _, _, _, _ => e.elim

/-- A slice of slices that reads as a list of lists of bytes. -/
def Rds (H : AHeap) (v : Value) (ls : List (List UInt8)) : Prop := ∃ sl : List Sl, RdS ESl T.sl_uint8 H v sl ∧ Els H sl ls
theorem Rds.still {H H' : AHeap} {v : Value} {ls : List (List UInt8)} (r : Rds H v ls) (h : Still H H') : Rds H' v ls := let ⟨sl, h1, h2⟩ := r; ⟨sl, h1.still h, h2.still h⟩
theorem Rds.lenS {H : AHeap} {v : Value} {ls : List (List UInt8)} (r : Rds H v ls) : lenS v = some (.int .i64 (ls.length : Int)) := by
  obtain ⟨sl, h1, h2⟩ := r
  rw [← h2.len]; exact h1.1.lenS
theorem Rds.at {H : AHeap} {v : Value} {ls : List (List UInt8)} (r : Rds H v ls) {i : Nat} (hi : i < ls.length) :
    ∃ b o x, ixS 1 v (.int .i64 (i : Int)) = some (.pointer (some ⟨b, o, none⟩)) ∧ cellB (H.f b) o = some x ∧ BR H x ls[i] ∧ b < H.n ∧ blockOf v = some b := by
  obtain ⟨sl, h1, h2⟩ := r
  have hi' : i < sl.length := by rw [h2.len]; exact hi
  obtain ⟨b, o, k1, k2, k3, k4⟩ := h1.1.ix (q := .i64) hi'
  exact ⟨b, o, sl[i].v, k1, cutB_cell k3 (i := 0) (by decide), h2.at hi' hi, k2, k4⟩

/-- string(b). -/
theorem BR.str {H : AHeap} {v : Value} {l : List UInt8} (r : BR H v l) : xconv Try.prog T.sl_uint8 T.string v H = some (.string (mk l), H) :=
  conv_bs (P := Try.prog) (t := T.sl_uint8) (s := T.string) (e := T.uint8) Try.underlying22 Try.underlying5 Try.underlying9 r.1

/-! ### same -/
theorem l_same (la lb : List (List UInt8)) (a b : Value) (H : AHeap) (ra : Rds H a la) (rb : Rds H b lb) (hl : la.length = lb.length) (hb : la.length ≤ 1000000000000) : ∀ (t : List (List UInt8)) (i : Nat), la.drop i = t →
    (t = lb.drop i → ∀ K : K, l_law_same_0 a b (.int .i64 (i : Int)) H (blkK [] 0 K) = K .normal [] H) ∧
    (t ≠ lb.drop i → ∀ K : K, l_law_same_0 a b (.int .i64 (i : Int)) H (blkK [] 0 K) = K .ret [(4, .bool false)] H)
  | [], i, hx => by
    have h : la.length ≤ i := List.drop_eq_nil_iff.1 hx
    have hlt : ¬ (i : Int) < (la.length : Int) := by omega
    have hlen := ra.lenS
    refine ⟨fun _ K => by rw [r_law_same_0]; simp (disch := first | with_reducible rfl | assumption | omega | rfl | (simp only [go_sem]; first | done | omega)) only [go_sem, ↓reduceIte, reduceCtorEq, Nat.reduceEqDiff, Nat.reduceAdd, Nat.reduceSub, Nat.reduceMul, Nat.reduceDiv, Nat.reduceMod, Nat.reduceLeDiff, Nat.reduceLT, Nat.reduceBEq, Int.reduceEq, Int.reduceBEq, Int.reduceBNe, Int.reduceLT, Int.reduceLE, Int.reduceAdd, Int.reduceSub, Int.reduceNeg, Int.reduceToNat, Int.reducePow, Nat.reducePow, Int.reduceMul, Int.reduceDiv, ↓s_law_same_b0, hlen, hlt], fun h2 => absurd (List.drop_eq_nil_of_le (by omega)).symm h2⟩
  | x :: t, i, hx => by
    obtain ⟨h, hxa, hx'⟩ := drop_cons hx
    have hlt : (i : Int) < (la.length : Int) := by omega
    have hlen := ra.lenS
    have h' : i < lb.length := by omega
    obtain ⟨b1, o1, y1, i1, c1, r1, _⟩ := ra.at h
    obtain ⟨b2, o2, y2, i2, c2, r2, _⟩ := rb.at h'
    have s1 := r1.str
    have s2 := r2.str
    obtain ⟨k1, k2⟩ := l_same la lb a b H ra rb hl hb t (i + 1) hx'
    rw [hxa] at s1
    rw [List.drop_eq_getElem_cons h']
    by_cases he : x = lb[i]
    · rw [he] at s1
      refine ⟨fun h2 K => ?_, fun h2 K => ?_⟩
      · have hT := k1 (List.cons.inj h2).2 K
        rw [r_law_same_0]
        simp (disch := first | with_reducible rfl | assumption | omega | rfl | (simp only [go_sem]; first | done | omega)) only [go_sem, ↓reduceIte, reduceCtorEq, Nat.reduceEqDiff, Nat.reduceAdd, Nat.reduceSub, Nat.reduceMul, Nat.reduceDiv, Nat.reduceMod, Nat.reduceLeDiff, Nat.reduceLT, Nat.reduceBEq, Int.reduceEq, Int.reduceBEq, Int.reduceBNe, Int.reduceLT, Int.reduceLE, Int.reduceAdd, Int.reduceSub, Int.reduceNeg, Int.reduceToNat, Int.reducePow, Nat.reducePow, Int.reduceMul, Int.reduceDiv, ↓s_law_same_b0, hlen, hlt, i1, c1, s1, i2, c2, s2, bl_mk]
        exact hT
      · have := k2 (fun h3 => h2 (by rw [he, h3])) K
        rw [r_law_same_0]
        simp (disch := first | with_reducible rfl | assumption | omega | rfl | (simp only [go_sem]; first | done | omega)) only [go_sem, ↓reduceIte, reduceCtorEq, Nat.reduceEqDiff, Nat.reduceAdd, Nat.reduceSub, Nat.reduceMul, Nat.reduceDiv, Nat.reduceMod, Nat.reduceLeDiff, Nat.reduceLT, Nat.reduceBEq, Int.reduceEq, Int.reduceBEq, Int.reduceBNe, Int.reduceLT, Int.reduceLE, Int.reduceAdd, Int.reduceSub, Int.reduceNeg, Int.reduceToNat, Int.reducePow, Nat.reducePow, Int.reduceMul, Int.reduceDiv, ↓s_law_same_b0, hlen, hlt, i1, c1, s1, i2, c2, s2, bl_mk]
        exact this
    · refine ⟨fun h2 => absurd (List.cons.inj h2).1 he, fun _ K => ?_⟩
      rw [r_law_same_0]
      simp (disch := first | with_reducible rfl | assumption | omega | rfl | (simp only [go_sem]; first | done | omega)) only [go_sem, ↓reduceIte, reduceCtorEq, Nat.reduceEqDiff, Nat.reduceAdd, Nat.reduceSub, Nat.reduceMul, Nat.reduceDiv, Nat.reduceMod, Nat.reduceLeDiff, Nat.reduceLT, Nat.reduceBEq, Int.reduceEq, Int.reduceBEq, Int.reduceBNe, Int.reduceLT, Int.reduceLE, Int.reduceAdd, Int.reduceSub, Int.reduceNeg, Int.reduceToNat, Int.reducePow, Nat.reducePow, Int.reduceMul, Int.reduceDiv, ↓s_law_same_b0, hlen, hlt, i1, c1, s1, i2, c2, s2, bl_mk, he]

theorem q_same (la lb : List (List UInt8)) (a b : Value) (H : AHeap) (ra : Rds H a la) (rb : Rds H b lb) (hb : la.length ≤ 1000000000000) : CC F.law_same [a, b] H = some (.bool (decide (la = lb)), H) := by
  have hl1 := ra.lenS
  have hl2 := rb.lenS
  by_cases hl : la.length = lb.length
  · have hne : (la.length : Int) = (lb.length : Int) := by omega
    obtain ⟨k1, k2⟩ := l_same la lb a b H ra rb hl hb la 0 (by simp)
    rw [List.drop_zero] at k1 k2
    by_cases he : la = lb
    · rw [decide_eq_true he]
      have k1 : ∀ K : K, l_law_same_0 a b (.int .i64 0) H (blkK [] 0 K) = K .normal [] H := k1 he
      apply pure_of _ (d_law_same _ _ H) rfl
      rotate_left 2
      · simp (disch := first | with_reducible rfl | assumption | omega | rfl | (simp only [go_sem]; first | done | omega)) only [go_sem, ↓reduceIte, reduceCtorEq, Nat.reduceEqDiff, Nat.reduceAdd, Nat.reduceSub, Nat.reduceMul, Nat.reduceDiv, Nat.reduceMod, Nat.reduceLeDiff, Nat.reduceLT, Nat.reduceBEq, Int.reduceEq, Int.reduceBEq, Int.reduceBNe, Int.reduceLT, Int.reduceLE, Int.reduceAdd, Int.reduceSub, Int.reduceNeg, Int.reduceToNat, Int.reducePow, Nat.reducePow, Int.reduceMul, Int.reduceDiv, ↓s_law_same, hl1, hl2, hne, k1]
        rfl
      · (repeat (first | exact Fr.refl _ | refine Fr.push ?_ _ | refine Fr.set ?_ _ _ (by intro h; first | omega | (simp only [go_sem] at h; omega))))
    · rw [decide_eq_false he]
      have k2 : ∀ K : K, l_law_same_0 a b (.int .i64 0) H (blkK [] 0 K) = K .ret [(4, .bool false)] H := k2 he
      apply pure_of _ (d_law_same _ _ H) rfl
      rotate_left 2
      · simp (disch := first | with_reducible rfl | assumption | omega | rfl | (simp only [go_sem]; first | done | omega)) only [go_sem, ↓reduceIte, reduceCtorEq, Nat.reduceEqDiff, Nat.reduceAdd, Nat.reduceSub, Nat.reduceMul, Nat.reduceDiv, Nat.reduceMod, Nat.reduceLeDiff, Nat.reduceLT, Nat.reduceBEq, Int.reduceEq, Int.reduceBEq, Int.reduceBNe, Int.reduceLT, Int.reduceLE, Int.reduceAdd, Int.reduceSub, Int.reduceNeg, Int.reduceToNat, Int.reducePow, Nat.reducePow, Int.reduceMul, Int.reduceDiv, ↓s_law_same, hl1, hl2, hne, k2]
        rfl
      · (repeat (first | exact Fr.refl _ | refine Fr.push ?_ _ | refine Fr.set ?_ _ _ (by intro h; first | omega | (simp only [go_sem] at h; omega))))
  · have hne : ¬ (la.length : Int) = (lb.length : Int) := by omega
    have he : ¬ la = lb := fun h => hl (by rw [h])
    rw [decide_eq_false he]
    apply pure_of _ (d_law_same _ _ H) rfl
    rotate_left 2
    · simp (disch := first | with_reducible rfl | assumption | omega | rfl | (simp only [go_sem]; first | done | omega)) only [go_sem, ↓reduceIte, reduceCtorEq, Nat.reduceEqDiff, Nat.reduceAdd, Nat.reduceSub, Nat.reduceMul, Nat.reduceDiv, Nat.reduceMod, Nat.reduceLeDiff, Nat.reduceLT, Nat.reduceBEq, Int.reduceEq, Int.reduceBEq, Int.reduceBNe, Int.reduceLT, Int.reduceLE, Int.reduceAdd, Int.reduceSub, Int.reduceNeg, Int.reduceToNat, Int.reducePow, Nat.reducePow, Int.reduceMul, Int.reduceDiv, ↓s_law_same, hl1, hl2, hne]
      rfl
    · (repeat (first | exact Fr.refl _ | refine Fr.push ?_ _ | refine Fr.set ?_ _ _ (by intro h; first | omega | (simp only [go_sem] at h; omega))))

end Go.Proofs.Ytehnchfnhbmkdaa

/-
  Chapter 48: rows of slices that grow; the law's own pieces.
  Conditions: none. By an AI agent.
-/
set_option maxRecDepth 10000
set_option linter.unusedSimpArgs false
set_option linter.unusedVariables false
namespace Go.Proofs.Ytehnchfnhbmkdaa
open Go Eng

/-- A row of slices of its own; no element lies in the row's own block. -/
def OwnS (H : AHeap) (v : Value) (ls : List (List UInt8)) : Prop :=
  ∃ sl : List Sl, Own ESl H T.sl_uint8 v sl ∧ Els H sl ls ∧ ∀ s ∈ sl, Off (OnlyOf v) s.v
theorem OwnS.rds {H : AHeap} {v : Value} {ls : List (List UInt8)} (r : OwnS H v ls) : Rds H v ls := let ⟨sl, h1, h2, _⟩ := r; ⟨sl, h1.sl, h2⟩
theorem OwnS.nil {H : AHeap} : OwnS H (.slice none 0 0) [] := ⟨[], .inl ⟨rfl, rfl⟩, trivial, fun _ h => by simp at h⟩
theorem OwnS.still {H H' : AHeap} {v : Value} {ls : List (List UInt8)} (r : OwnS H v ls) (h : Still H H') : OwnS H' v ls := let ⟨sl, h1, h2, h3⟩ := r; ⟨sl, h1.still h, h2.still h, h3⟩
theorem OwnS.len {H : AHeap} {v : Value} {ls : List (List UInt8)} (r : OwnS H v ls) : Eng.lenS v = some (.int .i64 (ls.length : Int)) := r.rds.lenS

theorem BR.shape {H : AHeap} {v : Value} {l : List UInt8} (r : BR H v l) : ∃ s : Sl, v = s.v := by
  obtain ⟨a, c, rfl⟩ := r.1.shape
  exact ⟨⟨a, _, c⟩, rfl⟩

/-- One more element. -/
theorem OwnS.app {H : AHeap} {v x : Value} {ls : List (List UInt8)} {l : List UInt8} (r : OwnS H v ls) (rx : BR H x l) (hx : Off (OnlyOf v) x) (hn : ls.length ≤ 1000000000) :
    ∃ v' H', Eng.app T.sl_uint8 1 24 v (srcS 1 (.slice (some ⟨H.n, 0, none⟩) 1 2) (H.push (.cells [x] T.sl_uint8 true))) (H.push (.cells [x] T.sl_uint8 true)) = some (v', H') ∧ OwnS H' v' (ls ++ [l]) ∧ Fr (OnlyOf v) H H' ∧
      (blockOf v' = blockOf v ∨ ∃ b, blockOf v' = some b ∧ H.n ≤ b) := by
  obtain ⟨sl, h1, h2, h3⟩ := r
  obtain ⟨s, rfl⟩ := rx.shape
  obtain ⟨H1, hH1⟩ : ∃ H1, H.push (.cells [s.v] T.sl_uint8 true) = H1 := ⟨_, rfl⟩
  have s1 : Still H H1 := by rw [← hH1]; exact (Fr.refl H).push _
  have n1 : H1.n = H.n + 1 := by rw [← hH1]; rfl
  have f1 : H1.f H.n = .cells [s.v] T.sl_uint8 true := by rw [← hH1]; exact push_f_eq rfl
  have hrd : Rd ESl H1 (.slice (some ⟨H.n, 0, none⟩) 1 2) [s] := .inr (.inr ⟨H.n, 0, 2, rfl, by simp, by omega, by rw [f1]; rfl⟩)
  have hll : sl.length = ls.length := h2.len
  obtain ⟨v', H', e1, e2, e3, e4⟩ := (h1.still s1).appA [s] (sz := 1) (bytes := 24) rfl (by simp; omega) (by simp; omega) (hrd.src (sz := 1) rfl)
  have hfr : Fr (OnlyOf v) H H' := s1.still.then e3 fun b hb h => h
  have hblk' : blockOf v' = blockOf v ∨ ∃ b, blockOf v' = some b ∧ H.n ≤ b := e4.imp id fun h => ⟨_, h, by omega⟩
  refine ⟨v', H', by rw [hH1]; exact e1, ⟨sl ++ [s], e2, ?_, ?_⟩, hfr, hblk'⟩
  · exact Els.app (h2.keep hfr h3) ⟨rx.keep hfr hx, trivial⟩
  · intro y hy b hb h
    have hyb : b < H.n ∧ Off (OnlyOf v) y.v := by
      rcases List.mem_append.1 hy with hy | hy
      · exact ⟨h2.blk y hy b hb, h3 y hy⟩
      · simp at hy; subst hy
        refine ⟨?_, hx⟩
        have e : Els H [y] [l] := ⟨rx, trivial⟩
        exact e.blk y (by simp) b hb
    unfold OnlyOf at h
    rcases hblk' with h4 | ⟨b', h4, h5⟩
    · exact hyb.2 b hb (by unfold OnlyOf; rw [← h4]; exact h)
    · rw [h4] at h; cases h; omega

/-! ### Pieces -/
def nP (l : List UInt8) (size : Nat) : Nat := max 1 ((l.length + size - 1) / size)
def chunkL (l : List UInt8) (size i : Nat) : List UInt8 := (l.drop (i * size)).take size
def pieceL (l : List UInt8) (size n i : Nat) : List UInt8 := be (adl l) 4 ++ be i 2 ++ be n 2 ++ chunkL l size i
def pcsTo (l : List UInt8) (size n : Nat) : Nat → List (List UInt8)
  | 0 => []
  | i + 1 => pcsTo l size n i ++ [pieceL l size n i]
def pcsL (l : List UInt8) (size : Nat) : List (List UInt8) := pcsTo l size (nP l size) (nP l size)
theorem pcsTo_length (l : List UInt8) (size n : Nat) : ∀ i, (pcsTo l size n i).length = i
  | 0 => rfl
  | i + 1 => by simp [pcsTo, pcsTo_length l size n i]
theorem pcsL_length (l : List UInt8) (size : Nat) : (pcsL l size).length = nP l size := pcsTo_length _ _ _ _

/-- What a row reads as, whatever its capacity. -/
theorem Full.of {b n : Nat} : Full (.slice (some ⟨b, 0, none⟩) n (2 * n)) := .inr ⟨b, 0, n, rfl⟩
theorem nP_bound {l : List UInt8} {size i : Nat} (hs : 1 ≤ size) (hi : i < nP l size) : i * size ≤ l.length := by
  unfold nP at hi
  by_cases h0 : i = 0
  · subst h0; omega
  · have h1 : i < (l.length + size - 1) / size := by omega
    have h2 := (Nat.le_div_iff_mul_le (by omega : 0 < size)).1 h1
    rw [Nat.succ_mul] at h2
    omega

theorem r_pieces (l : List UInt8) (size : Nat) (v : Value) (H : AHeap) (hr : BR H v l) (hl : l.length ≤ 1000000000) (hs : 1 ≤ size) (hs2 : size ≤ 65536) (n i : Nat) (hn : n ≤ 65536) (hin : i < n) (hi2 : i * size ≤ l.length) (out : Value) (ro : OwnS H out (pcsTo l size n i)) :
    ∃ out' H', (∀ K : K, l_law_pieces_0 v (.int .i64 (size : Int)) (.int .i64 (n : Int)) out (.int .i64 (i : Int)) H (blkK [6] 0 K) = l_law_pieces_0 v (.int .i64 (size : Int)) (.int .i64 (n : Int)) out' (.int .i64 ((i + 1 : Nat) : Int)) H' (blkK [6] 0 K)) ∧
      OwnS H' out' (pcsTo l size n (i + 1)) ∧ Fr (OnlyOf out) H H' ∧ (blockOf out' = blockOf out ∨ ∃ b, blockOf out' = some b ∧ H.n ≤ b) := by
  have hck := q_lcheck l v H hr.1 (by omega)
  have hadl := adl_lt l
  obtain ⟨H1, m1, f1, s1, n1⟩ := q_many (adl l) 4 H hadl.1 (by omega) (by decide)
  obtain ⟨H2, m2, f2, s2, n2⟩ := q_many (i : Int) 2 H1 (by omega) (by omega) (by decide)
  have rd1 : BR H1 (.slice (some ⟨H.n, 0, none⟩) 4 (2 * 4)) (be (adl l) 4) := newB (by omega) f1
  have rd2 : BR H2 (.slice (some ⟨H1.n, 0, none⟩) 2 (2 * 2)) (be (i : Int) 2) := newB (by omega) f2
  obtain ⟨v3, H3, a3, o3, s3, b3, _⟩ := Full.app (e := T.uint8) Full.of (rd1.still s2).1 (m := be (i : Int) 2) (by simp [be]) (sz := 1) (bytes := 1) rfl (by simp [be]) (by simp [be]) (rd2.1.src (sz := 1) rfl)
  obtain ⟨H4, m4, f4, s4, n4⟩ := q_many (n : Int) 2 H3 (by omega) (by omega) (by decide)
  have rd4 : BR H4 (.slice (some ⟨H3.n, 0, none⟩) 2 (2 * 2)) (be (n : Int) 2) := newB (by omega) f4
  obtain ⟨v5, H5, a5, o5, s5, b5⟩ := (o3.still s4).appA (be (n : Int) 2) (sz := 1) (bytes := 1) rfl (by simp [be]) (by simp [be]) (rd4.1.src (sz := 1) rfl)
  have hn2 : H2.n ≤ H3.n := s3.n
  have hn3 : H3.n ≤ H4.n := s4.n
  have s5' : Still H H5 := (((s1.trans s2).trans s3).trans s4).then s5 fun b hb h => by
    unfold OnlyOf at h
    rw [b3] at h; cases h; omega
  have hv5 := hr.still s5'
  obtain ⟨p, hp⟩ : ∃ p, p = i * size := ⟨_, rfl⟩
  obtain ⟨q, hq⟩ : ∃ q, q = (i + 1) * size := ⟨_, rfl⟩
  have hpq : q = p + size := by rw [hp, hq, Nat.add_mul, Nat.one_mul]
  have hpl : p ≤ l.length := by omega
  have e1 : ∀ ox oy, xbin Try.prog .mul T.int ox oy (.int .i64 (i : Int)) (.int .i64 (size : Int)) = some (.int .i64 (p : Int)) := fun ox oy => by rw [hp]; exact mulN (by omega)
  have e2 : ∀ ox oy, xbin Try.prog .mul T.int ox oy (.int .i64 ((i : Int) + 1)) (.int .i64 (size : Int)) = some (.int .i64 (q : Int)) := fun ox oy => by
    rw [hq]; exact mulN (a := i + 1) (by omega)
  have hlen := hr.1.lenS
  obtain ⟨v6, a6, r6, _⟩ := hv5.mid (sz := 1) rfl (i := p) (j := min l.length q) (q := .i64) (q' := .i64) (by omega) (by omega)
  have a6' : slS T.uint8 1 v (some (.int .i64 (p : Int))) (some (.int .i64 (min (l.length : Int) (q : Int)))) none H5 = some v6 := by
    rw [show min (l.length : Int) (q : Int) = ((min l.length q : Nat) : Int) by omega]; exact a6
  have hchunk : (l.drop p).take (min l.length q - p) = chunkL l size i := by
    unfold chunkL
    rw [← hp]
    by_cases h : q ≤ l.length
    · rw [show min l.length q - p = size by omega]
    · rw [List.take_of_length_le (by simp; omega), List.take_of_length_le (by simp; omega)]
  rw [hchunk] at r6
  have hcl : (chunkL l size i).length ≤ size := by unfold chunkL; simp; omega
  obtain ⟨v7, H7, a7, o7, s7, b7⟩ := o5.appA (chunkL l size i) (sz := 1) (bytes := 1) rfl (by simp [be_length]; omega) (by simp [be_length]; omega) (r6.1.src (sz := 1) rfl)
  have hb5 : ∀ b, blockOf v5 = some b → H.n ≤ b := fun b h => by
    rcases b5 with h5 | h5
    · rw [h5, b3] at h; cases h; omega
    · rw [h5] at h; cases h; omega
  have s7' : Still H H7 := s5'.then s7 fun b hb h => by
    unfold OnlyOf at h
    have := hb5 b h; omega
  have hb7 : ∀ b, blockOf v7 = some b → H.n ≤ b := fun b h => by
    rcases b7 with h7 | h7
    · rw [h7] at h; exact hb5 b h
    · rw [h7] at h; cases h; have := s5'.n; omega
  obtain ⟨ad7, n7, c7, rfl⟩ : ∃ a n c, v7 = .slice a n c := by obtain ⟨a, c, h⟩ := o7.rd.shape; exact ⟨_, _, _, h⟩
  have hpiece : be (adl l) 4 ++ be (i : Int) 2 ++ be (n : Int) 2 ++ chunkL l size i = pieceL l size n i := rfl
  rw [hpiece] at o7
  have hout : ∀ b, blockOf out = some b → b < H.n := fun b h => by
    obtain ⟨sl, k1, _⟩ := ro
    exact k1.blk h
  obtain ⟨v9, H9, a9, o9, s9, b9⟩ := (ro.still s7').app (x := .slice ad7 n7 c7) o7.sl (fun b hb h => by
    unfold OnlyOf at h
    have := hb7 b hb
    have := hout b h
    omega) (by rw [pcsTo_length]; omega)
  refine ⟨v9, H9, fun K => ?_, o9, s7'.still.then s9 fun b hb h => h, b9.imp id fun ⟨b, h1, h2⟩ => ⟨b, h1, by have := s7'.n; omega⟩⟩
  have hlt : (i : Int) < (n : Int) := by omega
  have m1 : CC F.law_many [.int .i64 (adl l), .int .i64 4] H = some (.slice (some ⟨H.n, 0, none⟩) 4 (2 * 4), H1) := m1
  have m2 : CC F.law_many [.int .i64 (i : Int), .int .i64 2] H1 = some (.slice (some ⟨H1.n, 0, none⟩) 2 (2 * 2), H2) := m2
  have m4 : CC F.law_many [.int .i64 (n : Int), .int .i64 2] H3 = some (.slice (some ⟨H3.n, 0, none⟩) 2 (2 * 2), H4) := m4
  rw [r_law_pieces_0, Int.natCast_add]
  simp (disch := first | with_reducible rfl | assumption | omega | rfl | (simp only [go_sem]; first | done | omega)) only [go_sem, ↓reduceIte, reduceCtorEq, Nat.reduceEqDiff, Nat.reduceAdd, Nat.reduceSub, Nat.reduceMul, Nat.reduceDiv, Nat.reduceMod, Nat.reduceLeDiff, Nat.reduceLT, Nat.reduceBEq, Int.reduceEq, Int.reduceBEq, Int.reduceBNe, Int.reduceLT, Int.reduceLE, Int.reduceAdd, Int.reduceSub, Int.reduceNeg, Int.reduceToNat, Int.reducePow, Nat.reducePow, Int.reduceMul, Int.reduceDiv, ↓s_law_pieces_b0, hlt, enterK_eq hck, enterK_eq m1, enterK_eq m2, a3, enterK_eq m4, a5, e1, e2, hlen, a6', a7, a9]

theorem l_pieces (l : List UInt8) (size : Nat) (v : Value) (hl : l.length ≤ 1000000000) (hs : 1 ≤ size) (hs2 : size ≤ 65536) (n : Nat) (hnl : n = nP l size) (hn : n ≤ 65536) : ∀ (m i : Nat) (H : AHeap) (out : Value), i + m = n → BR H v l → OwnS H out (pcsTo l size n i) → (∀ b, blockOf v = some b → blockOf out ≠ some b) →
    ∃ out' H', (∀ K : K, l_law_pieces_0 v (.int .i64 (size : Int)) (.int .i64 (n : Int)) out (.int .i64 (i : Int)) H (blkK [6] 0 K) = K .normal [(6, out')] H') ∧
      OwnS H' out' (pcsTo l size n n) ∧ Fr (OnlyOf out) H H' ∧ (blockOf out' = blockOf out ∨ ∃ b, blockOf out' = some b ∧ H.n ≤ b)
  | 0, i, H, out, him, hr, ro, hne => by
    obtain rfl : i = n := by omega
    have hlt : ¬ (i : Int) < (i : Int) := by omega
    refine ⟨out, H, fun K => ?_, ro, Fr.refl H, .inl rfl⟩
    rw [r_law_pieces_0]
    simp (disch := first | with_reducible rfl | assumption | omega | rfl | (simp only [go_sem]; first | done | omega)) only [go_sem, ↓reduceIte, reduceCtorEq, Nat.reduceEqDiff, Nat.reduceAdd, Nat.reduceSub, Nat.reduceMul, Nat.reduceDiv, Nat.reduceMod, Nat.reduceLeDiff, Nat.reduceLT, Nat.reduceBEq, Int.reduceEq, Int.reduceBEq, Int.reduceBNe, Int.reduceLT, Int.reduceLE, Int.reduceAdd, Int.reduceSub, Int.reduceNeg, Int.reduceToNat, Int.reducePow, Nat.reducePow, Int.reduceMul, Int.reduceDiv, ↓s_law_pieces_b0, hlt]
  | m + 1, i, H, out, him, hr, ro, hne => by
    obtain ⟨out1, H1, e1, o1, f1, b1⟩ := r_pieces l size v H hr hl hs hs2 n i hn (by omega) (nP_bound hs (by omega)) out ro
    have hvb : ∀ b, blockOf v = some b → b < H.n := fun b h => by
      rcases hr.2 with h' | ⟨b', o, n', code, h', _, _, h3⟩
      · rw [h'] at h; cases h
      · rw [h'] at h; cases h; exact h3
    have hr1 : BR H1 v l := hr.keep f1 fun b hb h => hne b hb h
    obtain ⟨out2, H2, e2, o2, f2, b2⟩ := l_pieces l size v hl hs hs2 n hnl hn m (i + 1) H1 out1 (by omega) hr1 o1 (fun b hb h => by
      rcases b1 with b1 | ⟨b', h1, h2⟩
      · rw [b1] at h; exact hne b hb h
      · rw [h1] at h; cases h; have := hvb _ hb; omega)
    refine ⟨out2, H2, fun K => (e1 K).trans (e2 K), o2, f1.then f2 fun b hb h => ?_, ?_⟩
    · unfold OnlyOf at h ⊢
      rcases b1 with b1 | ⟨b', h1, h2⟩
      · rw [← b1]; exact h
      · rw [h1] at h; cases h; omega
    · rcases b2 with b2 | ⟨b', h1, h2⟩
      · rcases b1 with b1 | ⟨b', h1, h2⟩
        · exact .inl (by rw [b2, b1])
        · exact .inr ⟨b', by rw [b2, h1], h2⟩
      · exact .inr ⟨b', h1, by have := f1.n; omega⟩

theorem q_pieces (l : List UInt8) (size : Nat) (v : Value) (H : AHeap) (hr : BR H v l) (hl : l.length ≤ 1000000000) (hs : 1 ≤ size) (hs2 : size ≤ 65536) (hn : nP l size ≤ 65536) :
    ∃ v' H', CC F.law_pieces [v, .int .i64 (size : Int)] H = some (v', H') ∧ OwnS H' v' (pcsL l size) ∧ Still H H' ∧ (∀ b, blockOf v' = some b → H.n ≤ b) := by
  obtain ⟨out, H', e1, o1, f1, b1⟩ := l_pieces l size v hl hs hs2 (nP l size) rfl hn (nP l size) 0 H (.slice none 0 0) (by omega) hr OwnS.nil (fun b _ h => by cases h)
  have s1 : Still H H' := f1.mono fun b _ h => by unfold OnlyOf at h; cases h
  have hlen := hr.1.lenS
  have q1 : ∀ ox oy, xbin Try.prog .quo T.int ox oy (.int .i64 ((l.length : Int) + (size : Int) - 1)) (.int .i64 (size : Int)) = some (.int .i64 (((l.length + size - 1) / size : Nat) : Int)) := fun ox oy => by
    have e : (l.length : Int) + (size : Int) - 1 = ((l.length + size - 1 : Nat) : Int) := by omega
    rw [e]; exact quoN (by omega) (by omega)
  have hmx : max 1 (((l.length + size - 1) / size : Nat) : Int) = ((nP l size : Nat) : Int) := by unfold nP; omega
  have e1 : ∀ K : K, l_law_pieces_0 v (.int .i64 (size : Int)) (.int .i64 (max 1 (((l.length + size - 1) / size : Nat) : Int))) (.slice none 0 0) (.int .i64 0) H (blkK [6] 0 K) = K .normal [(6, out)] H' := by rw [hmx]; exact e1
  have hpos : nP l size ≠ 0 := by unfold nP; omega
  have hb : ∀ b, blockOf out = some b → H.n ≤ b := fun b h => by
    rcases b1 with b1 | ⟨b', h1, h2⟩
    · rw [b1] at h; cases h
    · rw [h1] at h; cases h; exact h2
  have hg : gr 9 out = false := by
    obtain ⟨sl, k1, k2, _⟩ := o1
    rcases k1 with ⟨k, _⟩ | ⟨k, _⟩ | ⟨b, o, c, xs, rfl, _⟩
    · have := k2.len; rw [k, pcsTo_length] at this; exact absurd this.symm hpos
    · have := k2.len; rw [k, pcsTo_length] at this; exact absurd this.symm hpos
    · rfl
  refine ⟨out, H', ?_, o1, s1, hb⟩
  refine (d_law_pieces _ _ H ?_).trans (congrArg some (tidy_mem (v := out) (H' := H') hg))
  simp (disch := first | with_reducible rfl | assumption | omega | rfl | (simp only [go_sem]; first | done | omega)) only [go_sem, ↓reduceIte, reduceCtorEq, Nat.reduceEqDiff, Nat.reduceAdd, Nat.reduceSub, Nat.reduceMul, Nat.reduceDiv, Nat.reduceMod, Nat.reduceLeDiff, Nat.reduceLT, Nat.reduceBEq, Int.reduceEq, Int.reduceBEq, Int.reduceBNe, Int.reduceLT, Int.reduceLE, Int.reduceAdd, Int.reduceSub, Int.reduceNeg, Int.reduceToNat, Int.reducePow, Nat.reducePow, Int.reduceMul, Int.reduceDiv, ↓s_law_pieces, hlen, q1, e1]

end Go.Proofs.Ytehnchfnhbmkdaa

/-
  Chapter 48: Cut.
  Conditions: none. By an AI agent.
-/
set_option maxRecDepth 10000
set_option linter.unusedSimpArgs false
set_option linter.unusedVariables false
namespace Go.Proofs.Ytehnchfnhbmkdaa
open Go Eng

theorem q_Chunk (a : Option Addr) (len c : Nat) (n : Int) (H : AHeap) (hn : 1 ≤ n) : CC F.slices_Chunk_byte [.slice a len c, .int .i64 n] H =
    some (.func (.func F.slices_Chunk_byte_1) #[] #[.pointer (some ⟨H.n, 0, none⟩), .pointer (some ⟨H.n + 1, 0, none⟩)], (H.push (.cells [.slice a len c] T.sl_uint8 true)).push (.cells [.int .i64 n] T.int true)) := by
  have hlt : ¬ n < 1 := by omega
  refine (d_slices_Chunk_byte _ _ H ?_).trans (congrArg some (tidy_mem rfl))
  simp (disch := first | with_reducible rfl | assumption | omega | rfl | (simp only [go_sem]; first | done | omega)) only [go_sem, ↓reduceIte, reduceCtorEq, Nat.reduceEqDiff, Nat.reduceAdd, Nat.reduceSub, Nat.reduceMul, Nat.reduceDiv, Nat.reduceMod, Nat.reduceLeDiff, Nat.reduceLT, Nat.reduceBEq, Int.reduceEq, Int.reduceBEq, Int.reduceBNe, Int.reduceLT, Int.reduceLE, Int.reduceAdd, Int.reduceSub, Int.reduceNeg, Int.reduceToNat, Int.reducePow, Nat.reducePow, Int.reduceMul, Int.reduceDiv, ↓s_slices_Chunk_byte, hlt]

/-- The elements of what Collect makes. -/
def chSl (b o len n : Nat) : Nat → List Sl
  | 0 => []
  | i + 1 => chSl b o len n i ++ [⟨some ⟨b, o + i * n, none⟩, min n (len - i * n), 2 * min n (len - i * n)⟩]
theorem chSl_cells (b o len n : Nat) : ∀ i, ESl.cells (chSl b o len n i) = apcs b o len n i
  | 0 => rfl
  | i + 1 => by rw [chSl, Enc.cells_append, chSl_cells, apcs]; rfl
theorem chSl_mem {b o len n : Nat} : ∀ {i : Nat} {s : Sl}, s ∈ chSl b o len n i → blockOf s.v = some b
  | i + 1, s, h => by
    rcases List.mem_append.1 h with h | h
    · exact chSl_mem h
    · simp at h; subst h; rfl
  | 0, s, h => by simp [chSl] at h
def chTo (l : List UInt8) (n : Nat) : Nat → List (List UInt8)
  | 0 => []
  | i + 1 => chTo l n i ++ [chunkL l n i]
theorem chTo_length (l : List UInt8) (n : Nat) : ∀ i, (chTo l n i).length = i
  | 0 => rfl
  | i + 1 => by simp [chTo, chTo_length l n i]
theorem chTo_at (l : List UInt8) (n : Nat) : ∀ (m i : Nat) (h : i < (chTo l n m).length), (chTo l n m)[i] = chunkL l n i
  | 0, i, h => by simp [chTo] at h
  | m + 1, i, h => by
    simp only [chTo]
    by_cases hi : i < m
    · rw [List.getElem_append_left (by rw [chTo_length]; exact hi)]; exact chTo_at l n m i _
    · have : i = m := by rw [chTo_length] at h; omega
      subst this
      rw [List.getElem_append_right (by rw [chTo_length]; omega)]
      simp

theorem chSl_els {H : AHeap} {b o c n : Nat} {l : List UInt8} (hr : BR H (.slice (some ⟨b, o, none⟩) l.length c) l) (hb : b < H.n) (hn : 1 ≤ n) : ∀ i, (∀ j, j < i → j * n < l.length) → Els H (chSl b o l.length n i) (chTo l n i)
  | 0, _ => trivial
  | i + 1, h => by
    have hi := h i (by omega)
    refine Els.app (chSl_els hr hb hn i fun j hj => h j (by omega)) ⟨?_, trivial⟩
    have hcl : (chunkL l n i).length = min n (l.length - i * n) := by unfold chunkL; simp
    show BR H (.slice (some ⟨b, o + i * n, none⟩) (min n (l.length - i * n)) (2 * min n (l.length - i * n))) (chunkL l n i)
    rw [← hcl]
    refine ⟨?_, .inr ⟨b, _, _, _, rfl, by omega, .inl (by omega), hb⟩⟩
    have hne : chunkL l n i ≠ [] := fun h0 => by rw [h0] at hcl; simp at hcl; omega
    refine .inr (.inr ⟨b, o + i * n, _, rfl, hne, hb, ?_⟩)
    rcases hr.1 with ⟨h0, _⟩ | ⟨h0, _⟩ | ⟨b', o', c', hv, hl, hb', hc⟩
    · subst h0; simp at hi
    · subst h0; simp at hi
    · cases hv
      have hw : EB.w = 1 := rfl
      have h2 := cutB_sub hc (i := i * n) (m := (chunkL l n i).length * 1) (by rw [hw, hcl]; omega)
      rw [hw, h2]
      have e1 := EB.cells_drop l (i * n)
      have e2 := EB.cells_take (l.drop (i * n)) (min n (l.length - i * n))
      rw [hw, Nat.mul_one] at e1 e2
      rw [Nat.mul_one, hcl, e1, e2]
      congr 2
      unfold chunkL
      by_cases h3 : n ≤ l.length - i * n
      · rw [Nat.min_eq_left h3]
      · rw [List.take_of_length_le (by simp; omega), List.take_of_length_le (by simp; omega)]

theorem pcN_spec {len n : Nat} (hn : 1 ≤ n) : len ≤ pcN len n * n ∧ ∀ j, j < pcN len n → j * n < len := by
  have h1 : pcN len n * n ≤ len + n - 1 := Nat.div_mul_le_self _ _
  have h2 := Nat.lt_div_mul_add (a := len + n - 1) (b := n) (by omega)
  have h2 : len + n - 1 < pcN len n * n + n := h2
  refine ⟨by omega, fun j hj => ?_⟩
  have h3 : (j + 1) * n ≤ pcN len n * n := Nat.mul_le_mul_right _ hj
  rw [Nat.add_mul, Nat.one_mul] at h3
  omega

/-- Collect of Chunk. -/
theorem q_Collect (l : List UInt8) (v : Value) (n : Nat) (H : AHeap) (hr : BR H v l) (hl : l.length ≤ 1000000000) (hn : 1 ≤ n) (hn2 : n ≤ 65536) :
    ∃ cl H1 v' H', CC F.slices_Chunk_byte [v, .int .i64 (n : Int)] H = some (cl, H1) ∧ CC F.slices_Collect_byte [cl] H1 = some (v', H') ∧
      (∃ sl, Own ESl H' T.sl_uint8 v' sl ∧ Els H' sl (chTo l n (pcN l.length n)) ∧ ∀ s ∈ sl, ∀ b, blockOf s.v = some b → b < H.n) ∧ Still H H' ∧ (∀ b, blockOf v' = some b → H.n ≤ b) := by
  obtain ⟨a, c, rfl⟩ := hr.1.shape
  obtain ⟨H1, hH1⟩ : ∃ H1, (H.push (.cells [.slice a l.length c] T.sl_uint8 true)).push (.cells [.int .i64 (n : Int)] T.int true) = H1 := ⟨_, rfl⟩
  have hch := q_Chunk a l.length c (n : Int) H (by omega)
  rw [hH1] at hch
  have s1 : Still H H1 := by rw [← hH1]; exact ((Fr.refl H).push _).push _
  have n1 : H1.n = H.n + 2 := by rw [← hH1]; rfl
  have f1 : H1.f H.n = .cells [.slice a l.length c] T.sl_uint8 true := by rw [← hH1, push_f_ne (by simp), push_f_eq rfl]
  have f2 : H1.f (H.n + 1) = .cells [.int .i64 (n : Int)] T.int true := by rw [← hH1]; exact push_f_eq rfl
  have hp : prims1 F.slices_Collect_byte = some chunkP := by kernel_rfl
  have hcc : ∀ r, chunkV (.slice a l.length c) n H1 = some r → CC F.slices_Collect_byte [.func (.func F.slices_Chunk_byte_1) #[] #[.pointer (some ⟨H.n, 0, none⟩), .pointer (some ⟨H.n + 1, 0, none⟩)]] H1 = some r := fun r h => by
    refine D_prim hp ?_
    unfold chunkP
    simp only [F.slices_Chunk_byte_1, List.length_nil, and_self, if_true, f1, f2]
    rw [if_pos ⟨by omega, by omega⟩, Int.toNat_natCast]
    exact h
  have hr1 := hr.still s1
  by_cases h0 : l = []
  · subst h0
    refine ⟨_, H1, .slice none 0 0, H1, hch, hcc _ ?_, ⟨[], .inl ⟨rfl, rfl⟩, ?_, fun s h => by simp at h⟩, s1, fun b h => by cases h⟩
    · rcases hr.2 with h | ⟨b, o, m, code, h, _⟩
      · cases h; rfl
      · cases h
        unfold chunkV
        simp
    · have : pcN 0 n = 0 := by unfold pcN; exact Nat.div_eq_of_lt (by omega)
      simp only [List.length_nil]
      rw [this]
      trivial
  · have hpos : l.length ≠ 0 := fun h => h0 (List.length_eq_zero_iff.1 h)
    rcases hr.2 with h | ⟨b, o, m, code, h, hm, hcode, hb⟩
    · injection h with _ h2 _; exact absurd h2 hpos
    · cases h
      obtain ⟨p1, p2⟩ := pcN_spec (len := l.length) hn
      have hel := chSl_els hr1 (by omega) hn (pcN l.length n) p2
      have hcells := chSl_cells b o l.length n (pcN l.length n)
      obtain ⟨H2, hH2⟩ : ∃ H2, H1.push (.cells (apcs b o l.length n (pcN l.length n)) T.sl_uint8 true) = H2 := ⟨_, rfl⟩
      have s2 : Still H1 H2 := by rw [← hH2]; exact (Fr.refl H1).push _
      have hlen : (chSl b o l.length n (pcN l.length n)).length = pcN l.length n := by rw [hel.len, chTo_length]
      refine ⟨_, H1, .slice (some ⟨H1.n, 0, none⟩) (pcN l.length n) (2 * pcN l.length n + 1), H2, hch, hcc _ ?_, ⟨chSl b o l.length n (pcN l.length n), .inr (.inr ⟨H1.n, 0, pcN l.length n, apcs b o l.length n (pcN l.length n), by rw [hlen], by rw [hlen]; exact Nat.le_refl _, by rw [← hH2]; simp, by rw [← hH2]; exact push_f_eq rfl, by rw [apcs_length]; simp [ESl], ?_⟩), hel.still s2, fun s h x hx => ?_⟩, s1.trans s2, fun x h => by simp [blockOf] at h; omega⟩
      · unfold chunkV
        simp only [hpos, if_false]
        rw [if_pos ⟨hm, by omega⟩, ← hH2]
        rfl
      · rw [hcells, List.drop_zero, List.take_of_length_le (by rw [apcs_length, hlen]; simp [ESl])]
      · rw [chSl_mem h] at hx; cases hx; exact hb

end Go.Proofs.Ytehnchfnhbmkdaa

/-
  Chapter 48: Cut.
  Conditions: none. By an AI agent.
-/
set_option maxRecDepth 10000
set_option linter.unusedSimpArgs false
set_option linter.unusedVariables false
namespace Go.Proofs.Ytehnchfnhbmkdaa
open Go Eng

@[go_sem] theorem slb_nil {ox oy : Operand} : xbin Try.prog .eql T.sl_uint8 ox oy (.slice none 0 0) (.slice none 0 0) = some (.bool true) := by kernel_rfl
@[go_sem] theorem slb_some {ox oy : Operand} {a : Addr} {n c : Nat} : xbin Try.prog .eql T.sl_uint8 ox oy (.slice (some a) n c) (.slice none 0 0) = some (.bool false) := by kernel_rfl

theorem q_cloneB (l : List UInt8) (a : Addr) (c : Nat) (H : AHeap) (hr : BR H (.slice (some a) l.length c) l) (hl0 : l ≠ []) (hl : l.length ≤ 1000000000) :
    ∃ v' H', CC F.slices_Clone_byte [.slice (some a) l.length c] H = some (v', H') ∧ Own EB H' T.uint8 v' l ∧ Still H H' ∧ ∀ b, blockOf v' = some b → H.n ≤ b := by
  obtain ⟨H1, hH1⟩ : ∃ H1, H.push (.cells [] T.uint8 true) = H1 := ⟨_, rfl⟩
  have s1 : Still H H1 := by rw [← hH1]; exact (Fr.refl H).push _
  have n1 : H1.n = H.n + 1 := by rw [← hH1]; rfl
  have ho : Own EB H1 T.uint8 (.slice (some ⟨H.n, 0, none⟩) 0 0) [] := .inr (.inl ⟨rfl, _, rfl, rfl, by show H.n < H1.n; omega⟩)
  obtain ⟨v', H', happ, hown, hfr, hb, hg⟩ := ho.app (m := l) hl0 (sz := 1) (bytes := 1) rfl (by simp; omega) (by simp; omega) ((hr.still s1).1.src (sz := 1) rfl)
  refine ⟨v', H', ?_, by simpa using hown, ?_, ?_⟩
  · refine (d_slices_Clone_byte _ H ?_).trans (congrArg some (tidy_mem (v := v') (H' := H') hg))
    simp (disch := first | with_reducible rfl | assumption | omega | rfl | (simp only [go_sem]; first | done | omega)) only [go_sem, ↓reduceIte, reduceCtorEq, Nat.reduceEqDiff, Nat.reduceAdd, Nat.reduceSub, Nat.reduceMul, Nat.reduceDiv, Nat.reduceMod, Nat.reduceLeDiff, Nat.reduceLT, Nat.reduceBEq, Int.reduceEq, Int.reduceBEq, Int.reduceBNe, Int.reduceLT, Int.reduceLE, Int.reduceAdd, Int.reduceSub, Int.reduceNeg, Int.reduceToNat, Int.reducePow, Nat.reducePow, Int.reduceMul, Int.reduceDiv, ↓s_slices_Clone_byte, hH1, happ]
  · refine s1.then hfr fun b hb h => ?_
    unfold OnlyOf at h
    simp [blockOf] at h
    omega
  · intro b h
    rcases hb with hb | hb
    · rw [hb] at h
      simp [blockOf] at h
      omega
    · rw [hb] at h
      simp at h
      omega

theorem cells22 (i n : Int) : EB.cells (be i 2 ++ be n 2) = [.int .u8 (i / 256 % 256), .int .u8 (i % 256), .int .u8 (n / 256 % 256), .int .u8 (n % 256)] := by
  rw [be2, be2, EB_cells]
  simp only [List.cons_append, List.nil_append, List.map_cons, List.map_nil, u8_cell (mod256 _)]

theorem r_Cut (l : List UInt8) (size : Nat) (cs : List (List UInt8)) (vp : Value) (hb : Nat) (H : AHeap) (hp : Rds H vp cs) (hh : BR H (.slice (some ⟨hb, 0, none⟩) 4 8) (be (adl l) 4)) (n i : Nat) (hn : n ≤ 65535) (hcn : cs.length = n) (hin : i < n) (hci : cs[i] = chunkL l size i) (hsz : size ≤ 65536)
    (out : Value) (ro : OwnS H out (pcsTo l size n i)) :
    ∃ out' H', (∀ K : K, l_backup_Cut_0 vp (.slice (some ⟨hb, 0, none⟩) 4 8) out vp (.int .i64 (n : Int)) (.int .i64 (i : Int)) H (blkK [8] 1 K) = l_backup_Cut_0 vp (.slice (some ⟨hb, 0, none⟩) 4 8) out' vp (.int .i64 (n : Int)) (.int .i64 ((i + 1 : Nat) : Int)) H' (blkK [8] 1 K)) ∧
      OwnS H' out' (pcsTo l size n (i + 1)) ∧ Fr (OnlyOf out) H H' ∧ (blockOf out' = blockOf out ∨ ∃ b, blockOf out' = some b ∧ H.n ≤ b) := by
  obtain ⟨b0, o0, x, i0, c0, rx, _⟩ := hp.at (i := i) (by omega)
  rw [hci] at rx
  have hlen := hp.lenS
  rw [hcn] at hlen
  have hbl : (be (adl l) 4).length = 4 := be_length _ _
  have hcl : (chunkL l size i).length ≤ 65536 := by unfold chunkL; simp; omega
  obtain ⟨v1, H1, q1, o1, s1, b1⟩ := q_cloneB (be (adl l) 4) ⟨hb, 0, none⟩ 8 H (by rw [hbl]; exact hh) (by simp [be]) (by rw [hbl]; decide)
  rw [hbl] at q1
  obtain ⟨H2, hH2⟩ : ∃ H2, H1.push (.cells [.int .u8 ((i : Int) / 256 % 256), .int .u8 ((i : Int) % 256), .int .u8 ((n : Int) / 256 % 256), .int .u8 ((n : Int) % 256)] T.uint8 true) = H2 := ⟨_, rfl⟩
  have s2 : Still H1 H2 := by rw [← hH2]; exact (Fr.refl H1).push _
  have n2 : H2.n = H1.n + 1 := by rw [← hH2]; rfl
  have f2 : H2.f H1.n = .cells (EB.cells (be (i : Int) 2 ++ be (n : Int) 2)) T.uint8 true := by rw [cells22, ← hH2]; exact push_f_eq rfl
  have rd2 : BR H2 (.slice (some ⟨H1.n, 0, none⟩) 4 (2 * 4)) (be (i : Int) 2 ++ be (n : Int) 2) := by
    have := newB (l := be (i : Int) 2 ++ be (n : Int) 2) (b := H1.n) (H := H2) (by omega) f2
    simpa [be_length] using this
  obtain ⟨v3, H3, a3, o3, s3, b3⟩ := (o1.still s2).appA (be (i : Int) 2 ++ be (n : Int) 2) (sz := 1) (bytes := 1) rfl (by simp [be]) (by simp [be]) (by have := rd2.1.src (sz := 1) rfl; exact this)
  have hb1 : ∀ b, blockOf v1 = some b → H.n ≤ b := b1
  have hn1 := s1.n
  have s3' : Still H H3 := (s1.trans s2).then s3 fun b hb h => by
    unfold OnlyOf at h; have := hb1 b h; omega
  have hb3 : ∀ b, blockOf v3 = some b → H.n ≤ b := fun b h => by
    rcases b3 with h3 | h3
    · rw [h3] at h; exact hb1 b h
    · rw [h3] at h; cases h; omega
  obtain ⟨v4, H4, a4, o4, s4, b4⟩ := o3.appA (chunkL l size i) (sz := 1) (bytes := 1) rfl (by simp [be_length]; omega) (by simp [be_length]; omega) ((rx.still s3').1.src (sz := 1) rfl)
  have s4' : Still H H4 := s3'.then s4 fun b hb h => by
    unfold OnlyOf at h; have := hb3 b h; omega
  have hb4 : ∀ b, blockOf v4 = some b → H.n ≤ b := fun b h => by
    rcases b4 with h4 | h4
    · rw [h4] at h; exact hb3 b h
    · rw [h4] at h; cases h; have := s3'.n; omega
  have hpiece : be (adl l) 4 ++ (be (i : Int) 2 ++ be (n : Int) 2) ++ chunkL l size i = pieceL l size n i := by unfold pieceL; simp only [List.append_assoc]
  rw [hpiece] at o4
  have hout : ∀ b, blockOf out = some b → b < H.n := fun b h => by
    obtain ⟨sl, k1, _⟩ := ro
    exact k1.blk h
  obtain ⟨ad4, n4, c4, rfl⟩ : ∃ a n c, v4 = .slice a n c := by obtain ⟨a, c, h⟩ := o4.rd.shape; exact ⟨_, _, _, h⟩
  obtain ⟨v5, H5, a5, o5, s5, b5⟩ := (ro.still s4').app (x := .slice ad4 n4 c4) o4.sl (fun b hb h => by
    unfold OnlyOf at h
    have := hb4 b hb
    have := hout b h
    omega) (by rw [pcsTo_length]; omega)
  refine ⟨v5, H5, fun K => ?_, o5, s4'.still.then s5 fun b hb h => h, b5.imp id fun ⟨b, h1, h2⟩ => ⟨b, h1, by have := s4'.n; omega⟩⟩
  have hlt : (i : Int) < (n : Int) := by omega
  have e8 : ∀ (m : Int) ox oy, xbin Try.prog .shr T.int ox oy (.int .i64 m) (.int .u64 8) = some (.int .i64 (m / 256)) := fun m ox oy => shrP (by decide)
  have cA : ∀ (m : Int) H, xconv Try.prog T.int T.uint8 (.int .i64 m) H = some (.int .u8 (m % 256), H) := fun m H => by rw [x_int_uint8, wrapU8]
  rw [r_backup_Cut_0, Int.natCast_add]
  simp (disch := first | with_reducible rfl | assumption | omega | rfl | (simp only [go_sem]; first | done | omega)) only [go_sem, ↓reduceIte, reduceCtorEq, Nat.reduceEqDiff, Nat.reduceAdd, Nat.reduceSub, Nat.reduceMul, Nat.reduceDiv, Nat.reduceMod, Nat.reduceLeDiff, Nat.reduceLT, Nat.reduceBEq, Int.reduceEq, Int.reduceBEq, Int.reduceBNe, Int.reduceLT, Int.reduceLE, Int.reduceAdd, Int.reduceSub, Int.reduceNeg, Int.reduceToNat, Int.reducePow, Nat.reducePow, Int.reduceMul, Int.reduceDiv, ↓s_backup_Cut_b0, hlt, i0, c0, enterK_eq q1, e8, cA, hlen, hH2, a3, a4, a5]

theorem l_Cut (l : List UInt8) (size : Nat) (cs : List (List UInt8)) (vp : Value) (hb : Nat) (n : Nat) (hn : n ≤ 65535) (hcn : cs.length = n) (hci : ∀ i (h : i < cs.length), cs[i] = chunkL l size i) (hsz : size ≤ 65536) (H0 : AHeap) (hp : Rds H0 vp cs) (hh : BR H0 (.slice (some ⟨hb, 0, none⟩) 4 8) (be (adl l) 4)) :
    ∀ (m i : Nat) (H : AHeap) (out : Value), i + m = n → Still H0 H → (∀ b, blockOf out = some b → H0.n ≤ b) → OwnS H out (pcsTo l size n i) →
    ∃ out' H', (∀ K : K, l_backup_Cut_0 vp (.slice (some ⟨hb, 0, none⟩) 4 8) out vp (.int .i64 (n : Int)) (.int .i64 (i : Int)) H (blkK [8] 1 K) = K .normal [(8, out')] H') ∧
      OwnS H' out' (pcsTo l size n n) ∧ Still H0 H' ∧ (∀ b, blockOf out' = some b → H0.n ≤ b)
  | 0, i, H, out, him, hs, hbo, ro => by
    obtain rfl : i = n := by omega
    have hlt : ¬ (i : Int) < (i : Int) := by omega
    refine ⟨out, H, fun K => ?_, ro, hs, hbo⟩
    rw [r_backup_Cut_0]
    simp (disch := first | with_reducible rfl | assumption | omega | rfl | (simp only [go_sem]; first | done | omega)) only [go_sem, ↓reduceIte, reduceCtorEq, Nat.reduceEqDiff, Nat.reduceAdd, Nat.reduceSub, Nat.reduceMul, Nat.reduceDiv, Nat.reduceMod, Nat.reduceLeDiff, Nat.reduceLT, Nat.reduceBEq, Int.reduceEq, Int.reduceBEq, Int.reduceBNe, Int.reduceLT, Int.reduceLE, Int.reduceAdd, Int.reduceSub, Int.reduceNeg, Int.reduceToNat, Int.reducePow, Nat.reducePow, Int.reduceMul, Int.reduceDiv, ↓s_backup_Cut_b0, hlt]
  | m + 1, i, H, out, him, hs, hbo, ro => by
    obtain ⟨out1, H1, e1, o1, f1, b1⟩ := r_Cut l size cs vp hb H (hp.still hs) (hh.still hs) n i hn hcn (by omega) (hci i _) hsz out ro
    have hs1 : Still H0 H1 := hs.then f1 fun b hb h => by unfold OnlyOf at h; have := hbo b h; omega
    have hb1 : ∀ b, blockOf out1 = some b → H0.n ≤ b := fun b h => by
      rcases b1 with b1 | ⟨b', h1, h2⟩
      · rw [b1] at h; exact hbo b h
      · rw [h1] at h; cases h; have := hs.n; omega
    obtain ⟨out2, H2, e2, o2, s2, b2⟩ := l_Cut l size cs vp hb n hn hcn hci hsz H0 hp hh m (i + 1) H1 out1 (by omega) hs1 hb1 o1
    exact ⟨out2, H2, fun K => (e1 K).trans (e2 K), o2, s2, b2⟩

theorem q_Cut_arg (v : Value) (n : Int) (H : AHeap) (hn : n < 1 ∨ 65536 < n) : CC F.backup_Cut [v, .int .i64 n] H = some (.tuple #[.slice none 0 0, .int .i64 2], H) := by
  by_cases h1 : n < 1
  · apply pure_of _ (d_backup_Cut _ _ H) rfl
    rotate_left 2
    · simp (disch := first | with_reducible rfl | assumption | omega | rfl | (simp only [go_sem]; first | done | omega)) only [go_sem, ↓reduceIte, reduceCtorEq, Nat.reduceEqDiff, Nat.reduceAdd, Nat.reduceSub, Nat.reduceMul, Nat.reduceDiv, Nat.reduceMod, Nat.reduceLeDiff, Nat.reduceLT, Nat.reduceBEq, Int.reduceEq, Int.reduceBEq, Int.reduceBNe, Int.reduceLT, Int.reduceLE, Int.reduceAdd, Int.reduceSub, Int.reduceNeg, Int.reduceToNat, Int.reducePow, Nat.reducePow, Int.reduceMul, Int.reduceDiv, ↓s_backup_Cut, h1]
      rfl
    · (repeat (first | exact Fr.refl _ | refine Fr.push ?_ _ | refine Fr.set ?_ _ _ (by intro h; first | omega | (simp only [go_sem] at h; omega))))
  · have h2 : 65536 < n := by omega
    apply pure_of _ (d_backup_Cut _ _ H) rfl
    rotate_left 2
    · simp (disch := first | with_reducible rfl | assumption | omega | rfl | (simp only [go_sem]; first | done | omega)) only [go_sem, ↓reduceIte, reduceCtorEq, Nat.reduceEqDiff, Nat.reduceAdd, Nat.reduceSub, Nat.reduceMul, Nat.reduceDiv, Nat.reduceMod, Nat.reduceLeDiff, Nat.reduceLT, Nat.reduceBEq, Int.reduceEq, Int.reduceBEq, Int.reduceBNe, Int.reduceLT, Int.reduceLE, Int.reduceAdd, Int.reduceSub, Int.reduceNeg, Int.reduceToNat, Int.reducePow, Nat.reducePow, Int.reduceMul, Int.reduceDiv, ↓s_backup_Cut, h1, h2]
      rfl
    · (repeat (first | exact Fr.refl _ | refine Fr.push ?_ _ | refine Fr.set ?_ _ _ (by intro h; first | omega | (simp only [go_sem] at h; omega))))

theorem q_Cut_long (l : List UInt8) (v : Value) (n : Nat) (H : AHeap) (hr : BR H v l) (h1 : 1 ≤ n) (h2 : n ≤ 65536) (hl : 4194304 < l.length) : CC F.backup_Cut [v, .int .i64 (n : Int)] H = some (.tuple #[.slice none 0 0, .int .i64 5], H) := by
  have hlen := hr.1.lenS
  have e1 : ¬ (n : Int) < 1 := by omega
  have e2 : ¬ 65536 < (n : Int) := by omega
  have e3 : 4194304 < (l.length : Int) := by omega
  apply pure_of _ (d_backup_Cut _ _ H) rfl
  rotate_left 2
  · simp (disch := first | with_reducible rfl | assumption | omega | rfl | (simp only [go_sem]; first | done | omega)) only [go_sem, ↓reduceIte, reduceCtorEq, Nat.reduceEqDiff, Nat.reduceAdd, Nat.reduceSub, Nat.reduceMul, Nat.reduceDiv, Nat.reduceMod, Nat.reduceLeDiff, Nat.reduceLT, Nat.reduceBEq, Int.reduceEq, Int.reduceBEq, Int.reduceBNe, Int.reduceLT, Int.reduceLE, Int.reduceAdd, Int.reduceSub, Int.reduceNeg, Int.reduceToNat, Int.reducePow, Nat.reducePow, Int.reduceMul, Int.reduceDiv, ↓s_backup_Cut, hlen, e1, e2, e3]
    rfl
  · (repeat (first | exact Fr.refl _ | refine Fr.push ?_ _ | refine Fr.set ?_ _ _ (by intro h; first | omega | (simp only [go_sem] at h; omega))))

theorem nP_pcN {l : List UInt8} {size : Nat} (hs : 1 ≤ size) : nP l size = max 1 (pcN l.length size) := rfl
theorem pcN_zero {n : Nat} (hn : 1 ≤ n) : pcN 0 n = 0 := by unfold pcN; exact Nat.div_eq_of_lt (by omega)
theorem pcN_pos {len n : Nat} (hn : 1 ≤ n) (h : len ≠ 0) : 1 ≤ pcN len n := Nat.div_pos (by omega) (by omega)

theorem q_Cut_many (l : List UInt8) (v : Value) (n : Nat) (H : AHeap) (hr : BR H v l) (h1 : 1 ≤ n) (h2 : n ≤ 65536) (hl : l.length ≤ 4194304) (hm : 65535 < nP l n) : CC F.backup_Cut [v, .int .i64 (n : Int)] H = some (.tuple #[.slice none 0 0, .int .i64 5], H) := by
  have hlen := hr.1.lenS
  have e1 : ¬ (n : Int) < 1 := by omega
  have e2 : ¬ 65536 < (n : Int) := by omega
  have e3 : ¬ 4194304 < (l.length : Int) := by omega
  obtain ⟨cl, H1, v', H', k1, k2, ⟨sl, ko, ke, _⟩, ks, _⟩ := q_Collect l v n H hr (by omega) h1 h2
  have hn' := ko.rd.lenS
  rw [ke.len, chTo_length] at hn'
  have e4 : 65535 < (pcN l.length n : Int) := by rw [nP_pcN h1] at hm; omega
  apply pure_of _ (d_backup_Cut _ _ H) rfl
  rotate_left 2
  · simp (disch := first | with_reducible rfl | assumption | omega | rfl | (simp only [go_sem]; first | done | omega)) only [go_sem, ↓reduceIte, reduceCtorEq, Nat.reduceEqDiff, Nat.reduceAdd, Nat.reduceSub, Nat.reduceMul, Nat.reduceDiv, Nat.reduceMod, Nat.reduceLeDiff, Nat.reduceLT, Nat.reduceBEq, Int.reduceEq, Int.reduceBEq, Int.reduceBNe, Int.reduceLT, Int.reduceLE, Int.reduceAdd, Int.reduceSub, Int.reduceNeg, Int.reduceToNat, Int.reducePow, Nat.reducePow, Int.reduceMul, Int.reduceDiv, ↓s_backup_Cut, hlen, e1, e2, e3, enterK_eq k1, enterK_eq k2, hn', e4]
    rfl
  · exact ks

theorem q_Cut (l : List UInt8) (v : Value) (n : Nat) (H : AHeap) (hr : BR H v l) (h1 : 1 ≤ n) (h2 : n ≤ 65536) (hl : l.length ≤ 4194304) (hm : nP l n ≤ 65535) :
    ∃ v' H', CC F.backup_Cut [v, .int .i64 (n : Int)] H = some (.tuple #[v', .int .i64 0], H') ∧ OwnS H' v' (pcsL l n) ∧ Still H H' ∧ (∀ b, blockOf v' = some b → H.n ≤ b) := by
  have hlen := hr.1.lenS
  have e1 : ¬ (n : Int) < 1 := by omega
  have e2 : ¬ 65536 < (n : Int) := by omega
  have e3 : ¬ 4194304 < (l.length : Int) := by omega
  obtain ⟨cl, H1, v', H2, k1, k2, ⟨sl, ko, ke, _⟩, ks, kb⟩ := q_Collect l v n H hr (by omega) h1 h2
  have hn' := ko.rd.lenS
  rw [ke.len, chTo_length] at hn'
  have e4 : ¬ 65535 < (pcN l.length n : Int) := by rw [nP_pcN h1] at hm; omega
  have hadl := adl_lt l
  by_cases h0 : l = []
  · subst h0
    have hz : pcN ([] : List UInt8).length n = 0 := pcN_zero h1
    have hnp : nP ([] : List UInt8) n = 1 := by rw [nP_pcN h1, hz]; rfl
    rw [hz] at hn' e4
    obtain ⟨H3, hH3⟩ : ∃ H3, H2.push (.cells [.slice none 0 0] T.sl_uint8 true) = H3 := ⟨_, rfl⟩
    have s3 : Still H2 H3 := by rw [← hH3]; exact (Fr.refl H2).push _
    have n3 : H3.n = H2.n + 1 := by rw [← hH3]; rfl
    have f3 : H3.f H2.n = .cells [.slice none 0 0] T.sl_uint8 true := by rw [← hH3]; exact push_f_eq rfl
    have rp : Rds H3 (.slice (some ⟨H2.n, 0, none⟩) 1 2) [[]] := ⟨[⟨none, 0, 0⟩], ⟨.inr (.inr ⟨H2.n, 0, 2, rfl, by simp, by omega, by rw [f3]; rfl⟩), .inr ⟨H2.n, 0, 1, 2, rfl, by decide, .inl rfl, by omega⟩⟩, ⟨RdS.nil, trivial⟩⟩
    have hck := q_Check [] v H3 ((hr.still ks).still s3).1 (by simp)
    have hfour := q_four (adl []) H3 hadl.1 hadl.2
    obtain ⟨H4, hH4⟩ : ∃ H4, H3.push (.cells (EB.cells (be (adl []) 4)) T.uint8 true) = H4 := ⟨_, rfl⟩
    rw [hH4] at hfour
    have s4 : Still H3 H4 := by rw [← hH4]; exact (Fr.refl H3).push _
    have n4 : H4.n = H3.n + 1 := by rw [← hH4]; rfl
    have rh : BR H4 (.slice (some ⟨H3.n, 0, none⟩) 4 8) (be (adl []) 4) := newB (by omega) (by rw [← hH4]; exact push_f_eq rfl)
    obtain ⟨out, H5, e5, o5, s5, b5⟩ := l_Cut [] n [[]] (.slice (some ⟨H2.n, 0, none⟩) 1 2) H3.n 1 (by decide) rfl (fun i h => by simp at h; subst h; simp [chunkL]) h2 H4 (rp.still s4) rh 1 0 H4 (.slice none 0 0) (by omega) (Fr.refl H4) (fun b h => by cases h) OwnS.nil
    have e5 : ∀ K : K, l_backup_Cut_0 (.slice (some ⟨H2.n, 0, none⟩) 1 2) (.slice (some ⟨H3.n, 0, none⟩) 4 8) (.slice none 0 0) (.slice (some ⟨H2.n, 0, none⟩) 1 2) (.int .i64 1) (.int .i64 0) H4 (blkK [8] 1 K) = K .normal [(8, out)] H5 := e5
    have s' : Still H H5 := ((ks.trans s3).trans s4).trans s5
    refine ⟨out, H5, ?_, by rw [pcsL, hnp]; exact o5, s', fun b h => by have := b5 b h; have := ks.n; omega⟩
    have hg : gr 9 (.tuple #[out, .int .i64 0]) = false := by
      obtain ⟨sl, k1, k2, _⟩ := o5
      rcases k1 with ⟨k, _⟩ | ⟨k, _⟩ | ⟨b, o, c, xs, rfl, _⟩
      · have := k2.len; rw [k, pcsTo_length] at this; cases this
      · have := k2.len; rw [k, pcsTo_length] at this; cases this
      · rfl
    have e4 : ¬ (65535 : Int) < 0 := by decide
    have hn' : lenS v' = some (.int .i64 0) := hn'
    have hlen : lenS v = some (.int .i64 0) := hlen
    have e3 : ¬ (4194304 : Int) < 0 := by decide
    refine (d_backup_Cut _ _ H ?_).trans (congrArg some (tidy_mem (v := .tuple #[out, .int .i64 0]) (H' := H5) hg))
    simp (disch := first | with_reducible rfl | assumption | omega | rfl | (simp only [go_sem]; first | done | omega)) only [go_sem, ↓reduceIte, reduceCtorEq, Nat.reduceEqDiff, Nat.reduceAdd, Nat.reduceSub, Nat.reduceMul, Nat.reduceDiv, Nat.reduceMod, Nat.reduceLeDiff, Nat.reduceLT, Nat.reduceBEq, Int.reduceEq, Int.reduceBEq, Int.reduceBNe, Int.reduceLT, Int.reduceLE, Int.reduceAdd, Int.reduceSub, Int.reduceNeg, Int.reduceToNat, Int.reducePow, Nat.reducePow, Int.reduceMul, Int.reduceDiv, ↓s_backup_Cut, hlen, e1, e2, e3, enterK_eq k1, enterK_eq k2, hn', e4, hH3, enterK_eq hck, enterK_eq hfour, e5]
  · have hpos : l.length ≠ 0 := fun h => h0 (List.length_eq_zero_iff.1 h)
    have hp1 := pcN_pos h1 hpos
    have hnp : nP l n = pcN l.length n := by rw [nP_pcN h1]; omega
    have e6 : ¬ (pcN l.length n : Int) = 0 := by omega
    have rp : Rds H2 v' (chTo l n (pcN l.length n)) := ⟨sl, ko.sl, ke⟩
    have hck := q_Check l v H2 (hr.still ks).1 (by omega)
    have hfour := q_four (adl l) H2 hadl.1 hadl.2
    obtain ⟨H4, hH4⟩ : ∃ H4, H2.push (.cells (EB.cells (be (adl l) 4)) T.uint8 true) = H4 := ⟨_, rfl⟩
    rw [hH4] at hfour
    have s4 : Still H2 H4 := by rw [← hH4]; exact (Fr.refl H2).push _
    have n4 : H4.n = H2.n + 1 := by rw [← hH4]; rfl
    have rh : BR H4 (.slice (some ⟨H2.n, 0, none⟩) 4 8) (be (adl l) 4) := by
      have := newB (l := be (adl l) 4) (b := H2.n) (H := H4) (by omega) (by rw [← hH4]; exact push_f_eq rfl)
      rwa [be_length] at this
    obtain ⟨out, H5, e5, o5, s5, b5⟩ := l_Cut l n _ v' H2.n (pcN l.length n) (by omega) (chTo_length _ _ _) (fun i h => chTo_at l n _ i h) h2 H4 (rp.still s4) rh (pcN l.length n) 0 H4 (.slice none 0 0) (by omega) (Fr.refl H4) (fun b h => by cases h) OwnS.nil
    have e5 : ∀ K : K, l_backup_Cut_0 v' (.slice (some ⟨H2.n, 0, none⟩) 4 8) (.slice none 0 0) v' (.int .i64 (pcN l.length n : Int)) (.int .i64 0) H4 (blkK [8] 1 K) = K .normal [(8, out)] H5 := e5
    have s' : Still H H5 := (ks.trans s4).trans s5
    refine ⟨out, H5, ?_, by rw [pcsL, hnp]; exact o5, s', fun b h => by have := b5 b h; have := ks.n; omega⟩
    have hg : gr 9 (.tuple #[out, .int .i64 0]) = false := by
      obtain ⟨sl, k1, k2, _⟩ := o5
      rcases k1 with ⟨k, _⟩ | ⟨k, _⟩ | ⟨b, o, c, xs, rfl, _⟩
      · have := k2.len; rw [k, pcsTo_length] at this; simp at this; omega
      · have := k2.len; rw [k, pcsTo_length] at this; simp at this; omega
      · rfl
    refine (d_backup_Cut _ _ H ?_).trans (congrArg some (tidy_mem (v := .tuple #[out, .int .i64 0]) (H' := H5) hg))
    simp (disch := first | with_reducible rfl | assumption | omega | rfl | (simp only [go_sem]; first | done | omega)) only [go_sem, ↓reduceIte, reduceCtorEq, Nat.reduceEqDiff, Nat.reduceAdd, Nat.reduceSub, Nat.reduceMul, Nat.reduceDiv, Nat.reduceMod, Nat.reduceLeDiff, Nat.reduceLT, Nat.reduceBEq, Int.reduceEq, Int.reduceBEq, Int.reduceBNe, Int.reduceLT, Int.reduceLE, Int.reduceAdd, Int.reduceSub, Int.reduceNeg, Int.reduceToNat, Int.reducePow, Nat.reducePow, Int.reduceMul, Int.reduceDiv, ↓s_backup_Cut, hlen, e1, e2, e3, enterK_eq k1, enterK_eq k2, hn', e4, e6, enterK_eq hck, enterK_eq hfour, e5]

end Go.Proofs.Ytehnchfnhbmkdaa

/-
  Chapter 48: pieces that belong together, in plain words; the law's own joined.
  Conditions: none. By an AI agent.
-/
set_option maxRecDepth 10000
set_option linter.unusedSimpArgs false
set_option linter.unusedVariables false
namespace Go.Proofs.Ytehnchfnhbmkdaa
open Go Eng

/-- q, which came before, and p agree. -/
def agP (p q : List UInt8) : Bool := !decide (prI q = prI p) || decide (q.drop 8 = p.drop 8)
def cdP (pre : List (List UInt8)) (x n : Int) (p : List UInt8) : Bool := decide (prX p = x) && (decide (prN p = n) && pre.all (agP p))
def ok11 (x n : Int) : List (List UInt8) → List (List UInt8) → Bool
  | _, [] => true
  | pre, p :: t => cdP pre x n p && ok11 x n (pre ++ [p]) t
/-- The first part with an index. -/
def fnd : List (List UInt8) → Int → Option (List UInt8)
  | [], _ => none
  | p :: t, i => if prI p = i then some (p.drop 8) else fnd t i
def outs (ls : List (List UInt8)) : Nat → Option (List UInt8)
  | 0 => some []
  | k + 1 => (outs ls k).bind fun o => (fnd ls (k : Int)).map fun s => o ++ s
def jn (ls : List (List UInt8)) : List UInt8 × Int :=
  if ls.all okP then
    match ls with
    | [] => ([], 4)
    | p :: _ =>
      if ok11 (prX p) (prN p) [] ls then
        match outs ls (prN p).toNat with
        | none => ([], 4)
        | some o => if adl o = prX p then (o, 0) else ([], 10)
      else ([], 11)
  else ([], 12)

theorem okP_len {p : List UInt8} (h : okP p = true) : 8 ≤ p.length ∧ prI p < prN p := by
  unfold okP at h
  simp only [Bool.and_eq_true, decide_eq_true_eq] at h
  exact h
theorem q_part' (p : List UInt8) (v : Value) (H : AHeap) (hr : BR H v p) : ∃ a b c d, CC F.law_part [v] H = some (.tuple #[a, b, c, d, .bool (okP p)], H) := by
  by_cases h : 8 ≤ p.length
  · have := q_part p v H hr h
    have e : okP p = decide (prI p < prN p) := by unfold okP; simp [h]
    rw [e]
    exact ⟨_, _, _, _, this⟩
  · have := q_part_short p v H hr.1 (by omega)
    have e : okP p = false := by unfold okP; simp [h]
    rw [e]
    exact ⟨_, _, _, _, this⟩

theorem l_jd0 (ls : List (List UInt8)) (v : Value) (H : AHeap) (hr : Rds H v ls) (hl : ls.length ≤ 1000000000) : ∀ (t : List (List UInt8)) (i : Nat), ls.drop i = t →
    (t.all okP = true → ∀ K : K, l_law_joined_0 v (.int .i64 (i : Int)) H (blkK [0] 0 K) = K .normal [(0, v)] H) ∧
    (t.all okP = false → ∀ K : K, l_law_joined_0 v (.int .i64 (i : Int)) H (blkK [0] 0 K) = K .ret [(2, .slice none 0 0), (3, .int .i64 12)] H)
  | [], i, hx => by
    have h : ls.length ≤ i := List.drop_eq_nil_iff.1 hx
    have hlt : ¬ (i : Int) < (ls.length : Int) := by omega
    have hlen := hr.lenS
    exact ⟨fun _ K => by rw [r_law_joined_0]; simp (disch := first | with_reducible rfl | assumption | omega | rfl | (simp only [go_sem]; first | done | omega)) only [go_sem, ↓reduceIte, reduceCtorEq, Nat.reduceEqDiff, Nat.reduceAdd, Nat.reduceSub, Nat.reduceMul, Nat.reduceDiv, Nat.reduceMod, Nat.reduceLeDiff, Nat.reduceLT, Nat.reduceBEq, Int.reduceEq, Int.reduceBEq, Int.reduceBNe, Int.reduceLT, Int.reduceLE, Int.reduceAdd, Int.reduceSub, Int.reduceNeg, Int.reduceToNat, Int.reducePow, Nat.reducePow, Int.reduceMul, Int.reduceDiv, ↓s_law_joined_b0, hlen, hlt], fun h => by simp at h⟩
  | p :: t, i, hx => by
    obtain ⟨h, hxa, hx'⟩ := drop_cons hx
    have hlt : (i : Int) < (ls.length : Int) := by omega
    have hlen := hr.lenS
    obtain ⟨b1, o1, y1, i1, c1, r1, _⟩ := hr.at h
    rw [hxa] at r1
    obtain ⟨a, b, c, d, hp⟩ := q_part' p y1 H r1
    obtain ⟨k1, k2⟩ := l_jd0 ls v H hr hl t (i + 1) hx'
    rw [List.all_cons]
    cases ho : okP p with
    | true =>
      rw [ho] at hp
      refine ⟨fun h2 K => ?_, fun h2 K => ?_⟩
      · have := k1 (by simpa using h2) K
        rw [r_law_joined_0]
        simp (disch := first | with_reducible rfl | assumption | omega | rfl | (simp only [go_sem]; first | done | omega)) only [go_sem, ↓reduceIte, reduceCtorEq, Nat.reduceEqDiff, Nat.reduceAdd, Nat.reduceSub, Nat.reduceMul, Nat.reduceDiv, Nat.reduceMod, Nat.reduceLeDiff, Nat.reduceLT, Nat.reduceBEq, Int.reduceEq, Int.reduceBEq, Int.reduceBNe, Int.reduceLT, Int.reduceLE, Int.reduceAdd, Int.reduceSub, Int.reduceNeg, Int.reduceToNat, Int.reducePow, Nat.reducePow, Int.reduceMul, Int.reduceDiv, ↓s_law_joined_b0, hlen, hlt, i1, c1, enterK_eq hp]
        exact this
      · have := k2 (by simpa using h2) K
        rw [r_law_joined_0]
        simp (disch := first | with_reducible rfl | assumption | omega | rfl | (simp only [go_sem]; first | done | omega)) only [go_sem, ↓reduceIte, reduceCtorEq, Nat.reduceEqDiff, Nat.reduceAdd, Nat.reduceSub, Nat.reduceMul, Nat.reduceDiv, Nat.reduceMod, Nat.reduceLeDiff, Nat.reduceLT, Nat.reduceBEq, Int.reduceEq, Int.reduceBEq, Int.reduceBNe, Int.reduceLT, Int.reduceLE, Int.reduceAdd, Int.reduceSub, Int.reduceNeg, Int.reduceToNat, Int.reducePow, Nat.reducePow, Int.reduceMul, Int.reduceDiv, ↓s_law_joined_b0, hlen, hlt, i1, c1, enterK_eq hp]
        exact this
    | false =>
      rw [ho] at hp
      refine ⟨fun h2 => by simp at h2, fun h2 K => ?_⟩
      rw [r_law_joined_0]
      simp (disch := first | with_reducible rfl | assumption | omega | rfl | (simp only [go_sem]; first | done | omega)) only [go_sem, ↓reduceIte, reduceCtorEq, Nat.reduceEqDiff, Nat.reduceAdd, Nat.reduceSub, Nat.reduceMul, Nat.reduceDiv, Nat.reduceMod, Nat.reduceLeDiff, Nat.reduceLT, Nat.reduceBEq, Int.reduceEq, Int.reduceBEq, Int.reduceBNe, Int.reduceLT, Int.reduceLE, Int.reduceAdd, Int.reduceSub, Int.reduceNeg, Int.reduceToNat, Int.reducePow, Nat.reducePow, Int.reduceMul, Int.reduceDiv, ↓s_law_joined_b0, hlen, hlt, i1, c1, enterK_eq hp]

theorem l_jd2 (ls : List (List UInt8)) (v : Value) (H : AHeap) (hr : Rds H v ls) (hl : ls.length ≤ 1000000000) (hok : ls.all okP = true) (i : Nat) (hi : i ≤ ls.length) (x n : Value) (p : List UInt8) : ∀ (t : List (List UInt8)) (k : Nat), (ls.take i).drop k = t →
    (t.all (agP p) = true → ∀ K : K, l_law_joined_2 v x n (.int .i64 (i : Int)) (.int .i64 (prI p)) (.string (mk (p.drop 8))) (.int .i64 (k : Int)) H (blkK [0, 10, 12, 15] 4 K) = K .normal [(0, v), (10, x), (12, n), (15, .int .i64 (i : Int))] H) ∧
    (t.all (agP p) = false → ∀ K : K, l_law_joined_2 v x n (.int .i64 (i : Int)) (.int .i64 (prI p)) (.string (mk (p.drop 8))) (.int .i64 (k : Int)) H (blkK [0, 10, 12, 15] 4 K) = K .ret [(2, .slice none 0 0), (3, .int .i64 11)] H)
  | [], k, hx => by
    have h : (ls.take i).length ≤ k := List.drop_eq_nil_iff.1 hx
    have hlt : ¬ (k : Int) < (i : Int) := by simp at h; omega
    exact ⟨fun _ K => by rw [r_law_joined_2]; simp (disch := first | with_reducible rfl | assumption | omega | rfl | (simp only [go_sem]; first | done | omega)) only [go_sem, ↓reduceIte, reduceCtorEq, Nat.reduceEqDiff, Nat.reduceAdd, Nat.reduceSub, Nat.reduceMul, Nat.reduceDiv, Nat.reduceMod, Nat.reduceLeDiff, Nat.reduceLT, Nat.reduceBEq, Int.reduceEq, Int.reduceBEq, Int.reduceBNe, Int.reduceLT, Int.reduceLE, Int.reduceAdd, Int.reduceSub, Int.reduceNeg, Int.reduceToNat, Int.reducePow, Nat.reducePow, Int.reduceMul, Int.reduceDiv, ↓s_law_joined_b2, hlt], fun h => by simp at h⟩
  | q :: t, k, hx => by
    obtain ⟨h, hxa, hx'⟩ := drop_cons hx
    have hk : k < i := by simp at h; omega
    have hlt : (k : Int) < (i : Int) := by omega
    have hkl : k < ls.length := by omega
    obtain ⟨b1, o1, y1, i1, c1, r1, _⟩ := hr.at hkl
    have hq : ls[k] = q := by rw [← hxa]; simp
    rw [hq] at r1
    have hoq : okP q = true := List.all_eq_true.1 hok q (by rw [← hq]; exact List.getElem_mem _)
    have hp := q_part q y1 H r1 (okP_len hoq).1
    obtain ⟨k1, k2⟩ := l_jd2 ls v H hr hl hok i hi x n p t (k + 1) hx'
    rw [List.all_cons]
    by_cases e1 : prI q = prI p
    · by_cases e2 : q.drop 8 = p.drop 8
      · have ea : agP p q = true := by simp [agP, e2]
        rw [ea]
        have e1' : (prI q = prI p) = True := by simp [e1]
        have e2' : (q.drop 8 = p.drop 8) = True := by simp [e2]
        refine ⟨fun h2 K => ?_, fun h2 K => ?_⟩
        · have := k1 (by simpa using h2) K
          rw [r_law_joined_2]
          simp (disch := first | with_reducible rfl | assumption | omega | rfl | (simp only [go_sem]; first | done | omega)) only [go_sem, ↓reduceIte, reduceCtorEq, Nat.reduceEqDiff, Nat.reduceAdd, Nat.reduceSub, Nat.reduceMul, Nat.reduceDiv, Nat.reduceMod, Nat.reduceLeDiff, Nat.reduceLT, Nat.reduceBEq, Int.reduceEq, Int.reduceBEq, Int.reduceBNe, Int.reduceLT, Int.reduceLE, Int.reduceAdd, Int.reduceSub, Int.reduceNeg, Int.reduceToNat, Int.reducePow, Nat.reducePow, Int.reduceMul, Int.reduceDiv, ↓s_law_joined_b2, hlt, i1, c1, enterK_eq hp, e1', e2', bl_mk]
          exact this
        · have := k2 (by simpa using h2) K
          rw [r_law_joined_2]
          simp (disch := first | with_reducible rfl | assumption | omega | rfl | (simp only [go_sem]; first | done | omega)) only [go_sem, ↓reduceIte, reduceCtorEq, Nat.reduceEqDiff, Nat.reduceAdd, Nat.reduceSub, Nat.reduceMul, Nat.reduceDiv, Nat.reduceMod, Nat.reduceLeDiff, Nat.reduceLT, Nat.reduceBEq, Int.reduceEq, Int.reduceBEq, Int.reduceBNe, Int.reduceLT, Int.reduceLE, Int.reduceAdd, Int.reduceSub, Int.reduceNeg, Int.reduceToNat, Int.reducePow, Nat.reducePow, Int.reduceMul, Int.reduceDiv, ↓s_law_joined_b2, hlt, i1, c1, enterK_eq hp, e1', e2', bl_mk]
          exact this
      · have ea : agP p q = false := by simp [agP, e1, e2]
        rw [ea]
        have e1' : (prI q = prI p) = True := by simp [e1]
        refine ⟨fun h2 => by simp at h2, fun h2 K => ?_⟩
        rw [r_law_joined_2]
        simp (disch := first | with_reducible rfl | assumption | omega | rfl | (simp only [go_sem]; first | done | omega)) only [go_sem, ↓reduceIte, reduceCtorEq, Nat.reduceEqDiff, Nat.reduceAdd, Nat.reduceSub, Nat.reduceMul, Nat.reduceDiv, Nat.reduceMod, Nat.reduceLeDiff, Nat.reduceLT, Nat.reduceBEq, Int.reduceEq, Int.reduceBEq, Int.reduceBNe, Int.reduceLT, Int.reduceLE, Int.reduceAdd, Int.reduceSub, Int.reduceNeg, Int.reduceToNat, Int.reducePow, Nat.reducePow, Int.reduceMul, Int.reduceDiv, ↓s_law_joined_b2, hlt, i1, c1, enterK_eq hp, e1', e2, bl_mk]
    · have ea : agP p q = true := by simp [agP, e1]
      rw [ea]
      refine ⟨fun h2 K => ?_, fun h2 K => ?_⟩
      · have := k1 (by simpa using h2) K
        rw [r_law_joined_2]
        simp (disch := first | with_reducible rfl | assumption | omega | rfl | (simp only [go_sem]; first | done | omega)) only [go_sem, ↓reduceIte, reduceCtorEq, Nat.reduceEqDiff, Nat.reduceAdd, Nat.reduceSub, Nat.reduceMul, Nat.reduceDiv, Nat.reduceMod, Nat.reduceLeDiff, Nat.reduceLT, Nat.reduceBEq, Int.reduceEq, Int.reduceBEq, Int.reduceBNe, Int.reduceLT, Int.reduceLE, Int.reduceAdd, Int.reduceSub, Int.reduceNeg, Int.reduceToNat, Int.reducePow, Nat.reducePow, Int.reduceMul, Int.reduceDiv, ↓s_law_joined_b2, hlt, i1, c1, enterK_eq hp, e1]
        exact this
      · have := k2 (by simpa using h2) K
        rw [r_law_joined_2]
        simp (disch := first | with_reducible rfl | assumption | omega | rfl | (simp only [go_sem]; first | done | omega)) only [go_sem, ↓reduceIte, reduceCtorEq, Nat.reduceEqDiff, Nat.reduceAdd, Nat.reduceSub, Nat.reduceMul, Nat.reduceDiv, Nat.reduceMod, Nat.reduceLeDiff, Nat.reduceLT, Nat.reduceBEq, Int.reduceEq, Int.reduceBEq, Int.reduceBNe, Int.reduceLT, Int.reduceLE, Int.reduceAdd, Int.reduceSub, Int.reduceNeg, Int.reduceToNat, Int.reducePow, Nat.reducePow, Int.reduceMul, Int.reduceDiv, ↓s_law_joined_b2, hlt, i1, c1, enterK_eq hp, e1]
        exact this

theorem l_jd1 (ls : List (List UInt8)) (v : Value) (H : AHeap) (hr : Rds H v ls) (hl : ls.length ≤ 1000000000) (hok : ls.all okP = true) (x n : Int) : ∀ (t : List (List UInt8)) (i : Nat), ls.drop i = t →
    (ok11 x n (ls.take i) t = true → ∀ K : K, l_law_joined_1 v (.int .i64 x) (.int .i64 n) (.int .i64 (i : Int)) H (blkK [0, 10, 12] 2 K) = K .normal [(0, v), (10, .int .i64 x), (12, .int .i64 n)] H) ∧
    (ok11 x n (ls.take i) t = false → ∀ K : K, l_law_joined_1 v (.int .i64 x) (.int .i64 n) (.int .i64 (i : Int)) H (blkK [0, 10, 12] 2 K) = K .ret [(2, .slice none 0 0), (3, .int .i64 11)] H)
  | [], i, hx => by
    have h : ls.length ≤ i := List.drop_eq_nil_iff.1 hx
    have hlt : ¬ (i : Int) < (ls.length : Int) := by omega
    have hlen := hr.lenS
    exact ⟨fun _ K => by rw [r_law_joined_1]; simp (disch := first | with_reducible rfl | assumption | omega | rfl | (simp only [go_sem]; first | done | omega)) only [go_sem, ↓reduceIte, reduceCtorEq, Nat.reduceEqDiff, Nat.reduceAdd, Nat.reduceSub, Nat.reduceMul, Nat.reduceDiv, Nat.reduceMod, Nat.reduceLeDiff, Nat.reduceLT, Nat.reduceBEq, Int.reduceEq, Int.reduceBEq, Int.reduceBNe, Int.reduceLT, Int.reduceLE, Int.reduceAdd, Int.reduceSub, Int.reduceNeg, Int.reduceToNat, Int.reducePow, Nat.reducePow, Int.reduceMul, Int.reduceDiv, ↓s_law_joined_b1, hlen, hlt], fun h => by simp [ok11] at h⟩
  | p :: t, i, hx => by
    obtain ⟨h, hxa, hx'⟩ := drop_cons hx
    have hlt : (i : Int) < (ls.length : Int) := by omega
    have hlen := hr.lenS
    obtain ⟨b1, o1, y1, i1, c1, r1, _⟩ := hr.at h
    rw [hxa] at r1
    have hop : okP p = true := List.all_eq_true.1 hok p (by rw [← hxa]; exact List.getElem_mem _)
    have hp := q_part p y1 H r1 (okP_len hop).1
    obtain ⟨k1, k2⟩ := l_jd1 ls v H hr hl hok x n t (i + 1) hx'
    have htk : ls.take (i + 1) = ls.take i ++ [p] := by rw [← hxa]; exact List.take_succ_eq_append_getElem h
    rw [htk] at k1 k2
    have z2 : (ls.take i).all (agP p) = true → ∀ K : K, l_law_joined_2 v (.int .i64 x) (.int .i64 n) (.int .i64 (i : Int)) (.int .i64 (prI p)) (.string (mk (p.drop 8))) (.int .i64 0) H (blkK [0, 10, 12, 15] 4 K) = K .normal [(0, v), (10, .int .i64 x), (12, .int .i64 n), (15, .int .i64 (i : Int))] H := (l_jd2 ls v H hr hl hok i (by omega) (.int .i64 x) (.int .i64 n) p (ls.take i) 0 (by simp)).1
    have z3 : (ls.take i).all (agP p) = false → ∀ K : K, l_law_joined_2 v (.int .i64 x) (.int .i64 n) (.int .i64 (i : Int)) (.int .i64 (prI p)) (.string (mk (p.drop 8))) (.int .i64 0) H (blkK [0, 10, 12, 15] 4 K) = K .ret [(2, .slice none 0 0), (3, .int .i64 11)] H := (l_jd2 ls v H hr hl hok i (by omega) (.int .i64 x) (.int .i64 n) p (ls.take i) 0 (by simp)).2
    rw [ok11]
    by_cases e1 : prX p = x
    · by_cases e2 : prN p = n
      · have e1' : (prX p = x) = True := by simp [e1]
        have e2' : (prN p = n) = True := by simp [e2]
        cases ha : (ls.take i).all (agP p) with
        | true =>
          have z := z2 ha
          have ec : cdP (ls.take i) x n p = true := by simp [cdP, e1, e2, ha]
          rw [ec]
          refine ⟨fun h2 K => ?_, fun h2 K => ?_⟩
          · have := k1 (by simpa using h2) K
            rw [r_law_joined_1]
            simp (disch := first | with_reducible rfl | assumption | omega | rfl | (simp only [go_sem]; first | done | omega)) only [go_sem, ↓reduceIte, reduceCtorEq, Nat.reduceEqDiff, Nat.reduceAdd, Nat.reduceSub, Nat.reduceMul, Nat.reduceDiv, Nat.reduceMod, Nat.reduceLeDiff, Nat.reduceLT, Nat.reduceBEq, Int.reduceEq, Int.reduceBEq, Int.reduceBNe, Int.reduceLT, Int.reduceLE, Int.reduceAdd, Int.reduceSub, Int.reduceNeg, Int.reduceToNat, Int.reducePow, Nat.reducePow, Int.reduceMul, Int.reduceDiv, ↓s_law_joined_b1, hlen, hlt, i1, c1, enterK_eq hp, e1', e2', z]
            exact this
          · have := k2 (by simpa using h2) K
            rw [r_law_joined_1]
            simp (disch := first | with_reducible rfl | assumption | omega | rfl | (simp only [go_sem]; first | done | omega)) only [go_sem, ↓reduceIte, reduceCtorEq, Nat.reduceEqDiff, Nat.reduceAdd, Nat.reduceSub, Nat.reduceMul, Nat.reduceDiv, Nat.reduceMod, Nat.reduceLeDiff, Nat.reduceLT, Nat.reduceBEq, Int.reduceEq, Int.reduceBEq, Int.reduceBNe, Int.reduceLT, Int.reduceLE, Int.reduceAdd, Int.reduceSub, Int.reduceNeg, Int.reduceToNat, Int.reducePow, Nat.reducePow, Int.reduceMul, Int.reduceDiv, ↓s_law_joined_b1, hlen, hlt, i1, c1, enterK_eq hp, e1', e2', z]
            exact this
        | false =>
          have z := z3 ha
          have ec : cdP (ls.take i) x n p = false := by simp [cdP, ha]
          rw [ec]
          refine ⟨fun h2 => by simp at h2, fun h2 K => ?_⟩
          rw [r_law_joined_1]
          simp (disch := first | with_reducible rfl | assumption | omega | rfl | (simp only [go_sem]; first | done | omega)) only [go_sem, ↓reduceIte, reduceCtorEq, Nat.reduceEqDiff, Nat.reduceAdd, Nat.reduceSub, Nat.reduceMul, Nat.reduceDiv, Nat.reduceMod, Nat.reduceLeDiff, Nat.reduceLT, Nat.reduceBEq, Int.reduceEq, Int.reduceBEq, Int.reduceBNe, Int.reduceLT, Int.reduceLE, Int.reduceAdd, Int.reduceSub, Int.reduceNeg, Int.reduceToNat, Int.reducePow, Nat.reducePow, Int.reduceMul, Int.reduceDiv, ↓s_law_joined_b1, hlen, hlt, i1, c1, enterK_eq hp, e1', e2', z]
      · have e1' : (prX p = x) = True := by simp [e1]
        have ec : cdP (ls.take i) x n p = false := by simp [cdP, e2]
        rw [ec]
        refine ⟨fun h2 => by simp at h2, fun h2 K => ?_⟩
        rw [r_law_joined_1]
        simp (disch := first | with_reducible rfl | assumption | omega | rfl | (simp only [go_sem]; first | done | omega)) only [go_sem, ↓reduceIte, reduceCtorEq, Nat.reduceEqDiff, Nat.reduceAdd, Nat.reduceSub, Nat.reduceMul, Nat.reduceDiv, Nat.reduceMod, Nat.reduceLeDiff, Nat.reduceLT, Nat.reduceBEq, Int.reduceEq, Int.reduceBEq, Int.reduceBNe, Int.reduceLT, Int.reduceLE, Int.reduceAdd, Int.reduceSub, Int.reduceNeg, Int.reduceToNat, Int.reducePow, Nat.reducePow, Int.reduceMul, Int.reduceDiv, ↓s_law_joined_b1, hlen, hlt, i1, c1, enterK_eq hp, e1', e2]
    · have ec : cdP (ls.take i) x n p = false := by simp [cdP, e1]
      rw [ec]
      refine ⟨fun h2 => by simp at h2, fun h2 K => ?_⟩
      rw [r_law_joined_1]
      simp (disch := first | with_reducible rfl | assumption | omega | rfl | (simp only [go_sem]; first | done | omega)) only [go_sem, ↓reduceIte, reduceCtorEq, Nat.reduceEqDiff, Nat.reduceAdd, Nat.reduceSub, Nat.reduceMul, Nat.reduceDiv, Nat.reduceMod, Nat.reduceLeDiff, Nat.reduceLT, Nat.reduceBEq, Int.reduceEq, Int.reduceBEq, Int.reduceBNe, Int.reduceLT, Int.reduceLE, Int.reduceAdd, Int.reduceSub, Int.reduceNeg, Int.reduceToNat, Int.reducePow, Nat.reducePow, Int.reduceMul, Int.reduceDiv, ↓s_law_joined_b1, hlen, hlt, i1, c1, enterK_eq hp, e1]

end Go.Proofs.Ytehnchfnhbmkdaa

/-
  Chapter 48: the law's own joined.
  Conditions: none. By an AI agent.
-/
set_option maxRecDepth 10000
set_option linter.unusedSimpArgs false
set_option linter.unusedVariables false
namespace Go.Proofs.Ytehnchfnhbmkdaa
open Go Eng

theorem srcT_cells (s : List UInt8) : srcT (.string (mk s)) = some (s.length, EB.cells s) := by
  show some ((bl (mk s)).length, (bl (mk s)).map byteCell) = _
  rw [bl_mk, EB_cells]

/-- In a heap in which nothing that was in H0 has turned, a row of its own made since. -/
structure Since (H0 H : AHeap) (v : Value) (l : List UInt8) : Prop where
  still : Still H0 H
  own : Own EB H T.uint8 v l
  new : ∀ b, blockOf v = some b → H0.n ≤ b
theorem Since.nil {H : AHeap} : Since H H (.slice none 0 0) [] := ⟨Fr.refl H, .inl ⟨rfl, rfl⟩, fun b h => by cases h⟩
theorem Since.app {H0 H : AHeap} {v : Value} {l : List UInt8} (r : Since H0 H v l) (m : List UInt8) {src : Option (Nat × List Value)} (hsrc : src = some (m.length, EB.cells m)) (hb : l.length + m.length ≤ 1000000000000) :
    ∃ v' H', Eng.app T.uint8 1 1 v src H = some (v', H') ∧ Since H0 H' v' (l ++ m) := by
  obtain ⟨v', H', e1, e2, e3, e4⟩ := r.own.appA m (sz := 1) (bytes := 1) rfl (by omega) (by omega) hsrc
  refine ⟨v', H', e1, r.still.then e3 fun b hb h => ?_, e2, fun b h => ?_⟩
  · unfold OnlyOf at h; have := r.new b h; omega
  · rcases e4 with h4 | h4
    · rw [h4] at h; exact r.new b h
    · rw [h4] at h; cases h; exact r.still.n

theorem l_jd4t (ls : List (List UInt8)) (v : Value) (H : AHeap) (hr : Rds H v ls) (hl : ls.length ≤ 1000000000) (hok : ls.all okP = true) (x n out : Value) (at_ : Int) : ∀ (t : List (List UInt8)) (i : Nat), ls.drop i = t →
    ∀ K : K, l_law_joined_4 v x n out (.int .i64 at_) (.bool true) (.int .i64 (i : Int)) H (blkK [0, 10, 12, 27, 28, 29] 8 K) = K .normal [(0, v), (10, x), (12, n), (27, out), (28, .int .i64 at_), (29, .bool true)] H
  | [], i, hx, K => by
    have h : ls.length ≤ i := List.drop_eq_nil_iff.1 hx
    have hlt : ¬ (i : Int) < (ls.length : Int) := by omega
    have hlen := hr.lenS
    rw [r_law_joined_4]
    simp (disch := first | with_reducible rfl | assumption | omega | rfl | (simp only [go_sem]; first | done | omega)) only [go_sem, ↓reduceIte, reduceCtorEq, Nat.reduceEqDiff, Nat.reduceAdd, Nat.reduceSub, Nat.reduceMul, Nat.reduceDiv, Nat.reduceMod, Nat.reduceLeDiff, Nat.reduceLT, Nat.reduceBEq, Int.reduceEq, Int.reduceBEq, Int.reduceBNe, Int.reduceLT, Int.reduceLE, Int.reduceAdd, Int.reduceSub, Int.reduceNeg, Int.reduceToNat, Int.reducePow, Nat.reducePow, Int.reduceMul, Int.reduceDiv, ↓s_law_joined_b4, hlen, hlt]
  | p :: t, i, hx, K => by
    obtain ⟨h, hxa, hx'⟩ := drop_cons hx
    have hlt : (i : Int) < (ls.length : Int) := by omega
    have hlen := hr.lenS
    obtain ⟨b1, o1, y1, i1, c1, r1, _⟩ := hr.at h
    rw [hxa] at r1
    have hop : okP p = true := List.all_eq_true.1 hok p (by rw [← hxa]; exact List.getElem_mem _)
    have hp := q_part p y1 H r1 (okP_len hop).1
    have ih := l_jd4t ls v H hr hl hok x n out at_ t (i + 1) hx' K
    by_cases e1 : prI p = at_
    · have e1' : (prI p = at_) = True := by simp [e1]
      rw [r_law_joined_4]
      simp (disch := first | with_reducible rfl | assumption | omega | rfl | (simp only [go_sem]; first | done | omega)) only [go_sem, ↓reduceIte, reduceCtorEq, Nat.reduceEqDiff, Nat.reduceAdd, Nat.reduceSub, Nat.reduceMul, Nat.reduceDiv, Nat.reduceMod, Nat.reduceLeDiff, Nat.reduceLT, Nat.reduceBEq, Int.reduceEq, Int.reduceBEq, Int.reduceBNe, Int.reduceLT, Int.reduceLE, Int.reduceAdd, Int.reduceSub, Int.reduceNeg, Int.reduceToNat, Int.reducePow, Nat.reducePow, Int.reduceMul, Int.reduceDiv, ↓s_law_joined_b4, hlen, hlt, i1, c1, enterK_eq hp, e1']
      exact ih
    · rw [r_law_joined_4]
      simp (disch := first | with_reducible rfl | assumption | omega | rfl | (simp only [go_sem]; first | done | omega)) only [go_sem, ↓reduceIte, reduceCtorEq, Nat.reduceEqDiff, Nat.reduceAdd, Nat.reduceSub, Nat.reduceMul, Nat.reduceDiv, Nat.reduceMod, Nat.reduceLeDiff, Nat.reduceLT, Nat.reduceBEq, Int.reduceEq, Int.reduceBEq, Int.reduceBNe, Int.reduceLT, Int.reduceLE, Int.reduceAdd, Int.reduceSub, Int.reduceNeg, Int.reduceToNat, Int.reducePow, Nat.reducePow, Int.reduceMul, Int.reduceDiv, ↓s_law_joined_b4, hlen, hlt, i1, c1, enterK_eq hp, e1]
      exact ih

theorem l_jd4 (ls : List (List UInt8)) (v : Value) (H0 : AHeap) (hr : Rds H0 v ls) (hl : ls.length ≤ 1000000000) (hok : ls.all okP = true) (hsz : ∀ p ∈ ls, p.length ≤ 1000000000) (x n : Value) (at_ : Int) (H : AHeap) (out : Value) (o : List UInt8) (so : Since H0 H out o) (ho : o.length ≤ 900000000000) : ∀ (t : List (List UInt8)) (i : Nat), ls.drop i = t →
    (fnd t at_ = none → ∀ K : K, l_law_joined_4 v x n out (.int .i64 at_) (.bool false) (.int .i64 (i : Int)) H (blkK [0, 10, 12, 27, 28, 29] 8 K) = K .normal [(0, v), (10, x), (12, n), (27, out), (28, .int .i64 at_), (29, .bool false)] H) ∧
    (∀ s, fnd t at_ = some s → ∃ out' H', (∀ K : K, l_law_joined_4 v x n out (.int .i64 at_) (.bool false) (.int .i64 (i : Int)) H (blkK [0, 10, 12, 27, 28, 29] 8 K) = K .normal [(0, v), (10, x), (12, n), (27, out'), (28, .int .i64 at_), (29, .bool true)] H') ∧ Since H0 H' out' (o ++ s))
  | [], i, hx => by
    have h : ls.length ≤ i := List.drop_eq_nil_iff.1 hx
    have hlt : ¬ (i : Int) < (ls.length : Int) := by omega
    have hlen := hr.lenS
    exact ⟨fun _ K => by rw [r_law_joined_4]; simp (disch := first | with_reducible rfl | assumption | omega | rfl | (simp only [go_sem]; first | done | omega)) only [go_sem, ↓reduceIte, reduceCtorEq, Nat.reduceEqDiff, Nat.reduceAdd, Nat.reduceSub, Nat.reduceMul, Nat.reduceDiv, Nat.reduceMod, Nat.reduceLeDiff, Nat.reduceLT, Nat.reduceBEq, Int.reduceEq, Int.reduceBEq, Int.reduceBNe, Int.reduceLT, Int.reduceLE, Int.reduceAdd, Int.reduceSub, Int.reduceNeg, Int.reduceToNat, Int.reducePow, Nat.reducePow, Int.reduceMul, Int.reduceDiv, ↓s_law_joined_b4, hlen, hlt], fun s h => by simp [fnd] at h⟩
  | p :: t, i, hx => by
    obtain ⟨h, hxa, hx'⟩ := drop_cons hx
    have hlt : (i : Int) < (ls.length : Int) := by omega
    have hlen := hr.lenS
    have hr1 := hr.still so.still
    obtain ⟨b1, o1, y1, i1, c1, r1, _⟩ := hr1.at h
    rw [hxa] at r1
    have hmem : p ∈ ls := by rw [← hxa]; exact List.getElem_mem _
    have hop : okP p = true := List.all_eq_true.1 hok p hmem
    have hp := q_part p y1 H r1 (okP_len hop).1
    obtain ⟨k1, k2⟩ := l_jd4 ls v H0 hr hl hok hsz x n at_ H out o so ho t (i + 1) hx'
    rw [fnd]
    by_cases e1 : prI p = at_
    · rw [if_pos e1]
      have e1' : (prI p = at_) = True := by simp [e1]
      have hpl := hsz p hmem
      obtain ⟨out', H', a1, so'⟩ := so.app (p.drop 8) (srcT_cells (p.drop 8)) (by simp; omega)
      refine ⟨fun h => by simp at h, fun s hs => ?_⟩
      cases hs
      refine ⟨out', H', fun K => ?_, so'⟩
      have hT := l_jd4t ls v H' (hr.still so'.still) hl hok x n out' at_ t (i + 1) hx' K
      rw [r_law_joined_4]
      simp (disch := first | with_reducible rfl | assumption | omega | rfl | (simp only [go_sem]; first | done | omega)) only [go_sem, ↓reduceIte, reduceCtorEq, Nat.reduceEqDiff, Nat.reduceAdd, Nat.reduceSub, Nat.reduceMul, Nat.reduceDiv, Nat.reduceMod, Nat.reduceLeDiff, Nat.reduceLT, Nat.reduceBEq, Int.reduceEq, Int.reduceBEq, Int.reduceBNe, Int.reduceLT, Int.reduceLE, Int.reduceAdd, Int.reduceSub, Int.reduceNeg, Int.reduceToNat, Int.reducePow, Nat.reducePow, Int.reduceMul, Int.reduceDiv, ↓s_law_joined_b4, hlen, hlt, i1, c1, enterK_eq hp, e1', a1]
      exact hT
    · rw [if_neg e1]
      refine ⟨fun h2 K => ?_, fun s hs => ?_⟩
      · have := k1 h2 K
        rw [r_law_joined_4]
        simp (disch := first | with_reducible rfl | assumption | omega | rfl | (simp only [go_sem]; first | done | omega)) only [go_sem, ↓reduceIte, reduceCtorEq, Nat.reduceEqDiff, Nat.reduceAdd, Nat.reduceSub, Nat.reduceMul, Nat.reduceDiv, Nat.reduceMod, Nat.reduceLeDiff, Nat.reduceLT, Nat.reduceBEq, Int.reduceEq, Int.reduceBEq, Int.reduceBNe, Int.reduceLT, Int.reduceLE, Int.reduceAdd, Int.reduceSub, Int.reduceNeg, Int.reduceToNat, Int.reducePow, Nat.reducePow, Int.reduceMul, Int.reduceDiv, ↓s_law_joined_b4, hlen, hlt, i1, c1, enterK_eq hp, e1]
        exact this
      · obtain ⟨out', H', e2, e3⟩ := k2 s hs
        refine ⟨out', H', fun K => ?_, e3⟩
        have := e2 K
        rw [r_law_joined_4]
        simp (disch := first | with_reducible rfl | assumption | omega | rfl | (simp only [go_sem]; first | done | omega)) only [go_sem, ↓reduceIte, reduceCtorEq, Nat.reduceEqDiff, Nat.reduceAdd, Nat.reduceSub, Nat.reduceMul, Nat.reduceDiv, Nat.reduceMod, Nat.reduceLeDiff, Nat.reduceLT, Nat.reduceBEq, Int.reduceEq, Int.reduceBEq, Int.reduceBNe, Int.reduceLT, Int.reduceLE, Int.reduceAdd, Int.reduceSub, Int.reduceNeg, Int.reduceToNat, Int.reducePow, Nat.reducePow, Int.reduceMul, Int.reduceDiv, ↓s_law_joined_b4, hlen, hlt, i1, c1, enterK_eq hp, e1]
        exact this

theorem fnd_len {ls : List (List UInt8)} {i : Int} {s : List UInt8} (h : fnd ls i = some s) : ∃ p ∈ ls, prI p = i ∧ s = p.drop 8 := by
  induction ls with
  | nil => simp [fnd] at h
  | cons p t ih =>
    rw [fnd] at h
    split at h
    · cases h; exact ⟨p, by simp, by assumption, rfl⟩
    · obtain ⟨q, h1, h2⟩ := ih h
      exact ⟨q, by simp [h1], h2⟩
theorem outs_len {ls : List (List UInt8)} (hsz : ∀ p ∈ ls, p.length ≤ 5000000) : ∀ {k : Nat} {o : List UInt8}, outs ls k = some o → o.length ≤ k * 5000000
  | 0, o, h => by cases h; simp
  | k + 1, o, h => by
    rw [outs] at h
    obtain ⟨o1, h1, h2⟩ := Option.bind_eq_some_iff.1 h
    obtain ⟨s, h3, rfl⟩ := Option.map_eq_some_iff.1 h2
    obtain ⟨p, hp, _, rfl⟩ := fnd_len h3
    have := outs_len hsz h1
    have := hsz p hp
    simp
    omega
theorem outs_none {ls : List (List UInt8)} {k : Nat} (h : outs ls k = none) : ∀ {m : Nat}, k ≤ m → outs ls m = none
  | 0, hm => by have : k = 0 := by omega
                subst this; exact h
  | m + 1, hm => by
    by_cases e : k = m + 1
    · rw [← e]; exact h
    · rw [outs, outs_none h (by omega)]; rfl

theorem l_jd3 (ls : List (List UInt8)) (v : Value) (H0 : AHeap) (hr : Rds H0 v ls) (hl : ls.length ≤ 1000000000) (hok : ls.all okP = true) (hsz : ∀ p ∈ ls, p.length ≤ 5000000) (x : Int) (n : Nat) (hn : n ≤ 65536) : ∀ (m k : Nat) (H : AHeap) (out : Value) (o : List UInt8), k + m = n → outs ls k = some o → Since H0 H out o →
    (outs ls n = none → ∃ H', Still H0 H' ∧ ∀ K : K, l_law_joined_3 v (.int .i64 x) (.int .i64 (n : Int)) out (.int .i64 (k : Int)) H (blkK [10, 27] 6 K) = K .ret [(2, .slice none 0 0), (3, .int .i64 4)] H') ∧
    (∀ o', outs ls n = some o' → ∃ out' H', Since H0 H' out' o' ∧ ∀ K : K, l_law_joined_3 v (.int .i64 x) (.int .i64 (n : Int)) out (.int .i64 (k : Int)) H (blkK [10, 27] 6 K) = K .normal [(10, .int .i64 x), (27, out')] H')
  | 0, k, H, out, o, hkm, ho, so => by
    obtain rfl : k = n := by omega
    have hlt : ¬ (k : Int) < (k : Int) := by omega
    refine ⟨fun h => absurd (ho.symm.trans h) (by simp), fun o' h => ?_⟩
    rw [ho] at h; cases h
    refine ⟨out, H, so, fun K => ?_⟩
    rw [r_law_joined_3]
    simp (disch := first | with_reducible rfl | assumption | omega | rfl | (simp only [go_sem]; first | done | omega)) only [go_sem, ↓reduceIte, reduceCtorEq, Nat.reduceEqDiff, Nat.reduceAdd, Nat.reduceSub, Nat.reduceMul, Nat.reduceDiv, Nat.reduceMod, Nat.reduceLeDiff, Nat.reduceLT, Nat.reduceBEq, Int.reduceEq, Int.reduceBEq, Int.reduceBNe, Int.reduceLT, Int.reduceLE, Int.reduceAdd, Int.reduceSub, Int.reduceNeg, Int.reduceToNat, Int.reducePow, Nat.reducePow, Int.reduceMul, Int.reduceDiv, ↓s_law_joined_b3, hlt]
  | m + 1, k, H, out, o, hkm, ho, so => by
    have hlt : (k : Int) < (n : Int) := by omega
    have hol := outs_len hsz ho
    obtain ⟨j1, j2⟩ := l_jd4 ls v H0 hr hl hok (fun p hp => by have := hsz p hp; omega) (.int .i64 x) (.int .i64 (n : Int)) (k : Int) H out o so (by omega) ls 0 (by simp)
    cases hf : fnd ls (k : Int) with
    | none =>
      have hk1 : outs ls (k + 1) = none := by rw [outs, ho, hf]; rfl
      have hnn := outs_none hk1 (m := n) (by omega)
      have j1 : ∀ K : K, l_law_joined_4 v (.int .i64 x) (.int .i64 (n : Int)) out (.int .i64 (k : Int)) (.bool false) (.int .i64 0) H (blkK [0, 10, 12, 27, 28, 29] 8 K) = K .normal [(0, v), (10, .int .i64 x), (12, .int .i64 (n : Int)), (27, out), (28, .int .i64 (k : Int)), (29, .bool false)] H := j1 hf
      refine ⟨fun _ => ⟨H, so.still, fun K => ?_⟩, fun o' h => absurd (hnn.symm.trans h) (by simp)⟩
      rw [r_law_joined_3]
      simp (disch := first | with_reducible rfl | assumption | omega | rfl | (simp only [go_sem]; first | done | omega)) only [go_sem, ↓reduceIte, reduceCtorEq, Nat.reduceEqDiff, Nat.reduceAdd, Nat.reduceSub, Nat.reduceMul, Nat.reduceDiv, Nat.reduceMod, Nat.reduceLeDiff, Nat.reduceLT, Nat.reduceBEq, Int.reduceEq, Int.reduceBEq, Int.reduceBNe, Int.reduceLT, Int.reduceLE, Int.reduceAdd, Int.reduceSub, Int.reduceNeg, Int.reduceToNat, Int.reducePow, Nat.reducePow, Int.reduceMul, Int.reduceDiv, ↓s_law_joined_b3, hlt, j1]
    | some s =>
      obtain ⟨out1, H1, e1, so1⟩ := j2 s hf
      have hk1 : outs ls (k + 1) = some (o ++ s) := by rw [outs, ho, hf]; rfl
      have e1 : ∀ K : K, l_law_joined_4 v (.int .i64 x) (.int .i64 (n : Int)) out (.int .i64 (k : Int)) (.bool false) (.int .i64 0) H (blkK [0, 10, 12, 27, 28, 29] 8 K) = K .normal [(0, v), (10, .int .i64 x), (12, .int .i64 (n : Int)), (27, out1), (28, .int .i64 (k : Int)), (29, .bool true)] H1 := e1
      obtain ⟨g1, g2⟩ := l_jd3 ls v H0 hr hl hok hsz x n hn m (k + 1) H1 out1 (o ++ s) (by omega) hk1 so1
      refine ⟨fun h => ?_, fun o' h => ?_⟩
      · obtain ⟨H', s', e2⟩ := g1 h
        refine ⟨H', s', fun K => ?_⟩
        have := e2 K
        rw [r_law_joined_3]
        simp (disch := first | with_reducible rfl | assumption | omega | rfl | (simp only [go_sem]; first | done | omega)) only [go_sem, ↓reduceIte, reduceCtorEq, Nat.reduceEqDiff, Nat.reduceAdd, Nat.reduceSub, Nat.reduceMul, Nat.reduceDiv, Nat.reduceMod, Nat.reduceLeDiff, Nat.reduceLT, Nat.reduceBEq, Int.reduceEq, Int.reduceBEq, Int.reduceBNe, Int.reduceLT, Int.reduceLE, Int.reduceAdd, Int.reduceSub, Int.reduceNeg, Int.reduceToNat, Int.reducePow, Nat.reducePow, Int.reduceMul, Int.reduceDiv, ↓s_law_joined_b3, hlt, e1]
        exact this
      · obtain ⟨out', H', s', e2⟩ := g2 o' h
        refine ⟨out', H', s', fun K => ?_⟩
        have := e2 K
        rw [r_law_joined_3]
        simp (disch := first | with_reducible rfl | assumption | omega | rfl | (simp only [go_sem]; first | done | omega)) only [go_sem, ↓reduceIte, reduceCtorEq, Nat.reduceEqDiff, Nat.reduceAdd, Nat.reduceSub, Nat.reduceMul, Nat.reduceDiv, Nat.reduceMod, Nat.reduceLeDiff, Nat.reduceLT, Nat.reduceBEq, Int.reduceEq, Int.reduceBEq, Int.reduceBNe, Int.reduceLT, Int.reduceLE, Int.reduceAdd, Int.reduceSub, Int.reduceNeg, Int.reduceToNat, Int.reducePow, Nat.reducePow, Int.reduceMul, Int.reduceDiv, ↓s_law_joined_b3, hlt, e1]
        exact this

theorem toNat_lt {p : List UInt8} : (prN p).toNat < 65536 := by have := (pr_lt p).2.2; omega

theorem q_joined (ls : List (List UInt8)) (v : Value) (H : AHeap) (hr : Rds H v ls) (hl : ls.length ≤ 1000000) (hsz : ∀ p ∈ ls, p.length ≤ 5000000) :
    ∃ v' H', CC F.law_joined [v] H = some (.tuple #[v', .int .i64 (jn ls).2], H') ∧ BR H' v' (jn ls).1 ∧ Still H H' := by
  have hlen := hr.lenS
  obtain ⟨z1, z2⟩ := l_jd0 ls v H hr (by omega) ls 0 (by simp)
  unfold jn
  cases hok : ls.all okP with
  | false =>
    have z2 : ∀ K : K, l_law_joined_0 v (.int .i64 0) H (blkK [0] 0 K) = K .ret [(2, .slice none 0 0), (3, .int .i64 12)] H := z2 hok
    refine ⟨.slice none 0 0, H, ?_, RdS.nil, Fr.refl H⟩
    apply pure_of _ (d_law_joined _ H) rfl
    rotate_left 2
    · simp (disch := first | with_reducible rfl | assumption | omega | rfl | (simp only [go_sem]; first | done | omega)) only [go_sem, ↓reduceIte, reduceCtorEq, Nat.reduceEqDiff, Nat.reduceAdd, Nat.reduceSub, Nat.reduceMul, Nat.reduceDiv, Nat.reduceMod, Nat.reduceLeDiff, Nat.reduceLT, Nat.reduceBEq, Int.reduceEq, Int.reduceBEq, Int.reduceBNe, Int.reduceLT, Int.reduceLE, Int.reduceAdd, Int.reduceSub, Int.reduceNeg, Int.reduceToNat, Int.reducePow, Nat.reducePow, Int.reduceMul, Int.reduceDiv, ↓s_law_joined, z2]
      rfl
    · (repeat (first | exact Fr.refl _ | refine Fr.push ?_ _ | refine Fr.set ?_ _ _ (by intro h; first | omega | (simp only [go_sem] at h; omega))))
  | true =>
    have z1 : ∀ K : K, l_law_joined_0 v (.int .i64 0) H (blkK [0] 0 K) = K .normal [(0, v)] H := z1 hok
    simp only [if_true]
    cases hls : ls with
    | nil =>
      rw [hls] at hlen
      have hlen : lenS v = some (.int .i64 0) := hlen
      refine ⟨.slice none 0 0, H, ?_, RdS.nil, Fr.refl H⟩
      apply pure_of _ (d_law_joined _ H) rfl
      rotate_left 2
      · simp (disch := first | with_reducible rfl | assumption | omega | rfl | (simp only [go_sem]; first | done | omega)) only [go_sem, ↓reduceIte, reduceCtorEq, Nat.reduceEqDiff, Nat.reduceAdd, Nat.reduceSub, Nat.reduceMul, Nat.reduceDiv, Nat.reduceMod, Nat.reduceLeDiff, Nat.reduceLT, Nat.reduceBEq, Int.reduceEq, Int.reduceBEq, Int.reduceBNe, Int.reduceLT, Int.reduceLE, Int.reduceAdd, Int.reduceSub, Int.reduceNeg, Int.reduceToNat, Int.reducePow, Nat.reducePow, Int.reduceMul, Int.reduceDiv, ↓s_law_joined, z1, hlen]
        rfl
      · (repeat (first | exact Fr.refl _ | refine Fr.push ?_ _ | refine Fr.set ?_ _ _ (by intro h; first | omega | (simp only [go_sem] at h; omega))))
    | cons p t =>
      simp only
      rw [← hls]
      have hpos : 0 < ls.length := by rw [hls]; simp
      have hne : ¬ (ls.length : Int) = 0 := by omega
      obtain ⟨b1, o1, y1, i1, c1, r1, _⟩ := hr.at hpos
      have hp0 : ls[0] = p := by simp [hls]
      rw [hp0] at r1
      have hop : okP p = true := List.all_eq_true.1 hok p (by rw [hls]; simp)
      have hp := q_part p y1 H r1 (okP_len hop).1
      have i1 : ixS 1 v (.int .i64 0) = some (.pointer (some ⟨b1, o1, none⟩)) := i1
      obtain ⟨w1, w2⟩ := l_jd1 ls v H hr (by omega) hok (prX p) (prN p) ls 0 (by simp)
      rw [List.take_zero] at w1 w2
      cases h11 : ok11 (prX p) (prN p) [] ls with
      | false =>
        have w2 : ∀ K : K, l_law_joined_1 v (.int .i64 (prX p)) (.int .i64 (prN p)) (.int .i64 0) H (blkK [0, 10, 12] 2 K) = K .ret [(2, .slice none 0 0), (3, .int .i64 11)] H := w2 h11
        refine ⟨.slice none 0 0, H, ?_, RdS.nil, Fr.refl H⟩
        apply pure_of _ (d_law_joined _ H) rfl
        rotate_left 2
        · simp (disch := first | with_reducible rfl | assumption | omega | rfl | (simp only [go_sem]; first | done | omega)) only [go_sem, ↓reduceIte, reduceCtorEq, Nat.reduceEqDiff, Nat.reduceAdd, Nat.reduceSub, Nat.reduceMul, Nat.reduceDiv, Nat.reduceMod, Nat.reduceLeDiff, Nat.reduceLT, Nat.reduceBEq, Int.reduceEq, Int.reduceBEq, Int.reduceBNe, Int.reduceLT, Int.reduceLE, Int.reduceAdd, Int.reduceSub, Int.reduceNeg, Int.reduceToNat, Int.reducePow, Nat.reducePow, Int.reduceMul, Int.reduceDiv, ↓s_law_joined, z1, hlen, hne, i1, c1, enterK_eq hp, w2]
          rfl
        · (repeat (first | exact Fr.refl _ | refine Fr.push ?_ _ | refine Fr.set ?_ _ _ (by intro h; first | omega | (simp only [go_sem] at h; omega))))
      | true =>
        have w1 : ∀ K : K, l_law_joined_1 v (.int .i64 (prX p)) (.int .i64 (prN p)) (.int .i64 0) H (blkK [0, 10, 12] 2 K) = K .normal [(0, v), (10, .int .i64 (prX p)), (12, .int .i64 (prN p))] H := w1 h11
        simp only [if_true]
        have hN : (prN p) = ((prN p).toNat : Int) := by have := (pr_lt p).2.2; omega
        have hNl := toNat_lt (p := p)
        obtain ⟨g1, g2⟩ := l_jd3 ls v H hr (by omega) hok hsz (prX p) (prN p).toNat (by omega) (prN p).toNat 0 H (.slice none 0 0) [] (by omega) rfl Since.nil
        rw [← hN] at g1 g2
        cases ho : outs ls (prN p).toNat with
        | none =>
          obtain ⟨H', s', e2⟩ := g1 ho
          have e2 : ∀ K : K, l_law_joined_3 v (.int .i64 (prX p)) (.int .i64 (prN p)) (.slice none 0 0) (.int .i64 0) H (blkK [10, 27] 6 K) = K .ret [(2, .slice none 0 0), (3, .int .i64 4)] H' := e2
          refine ⟨.slice none 0 0, H, ?_, RdS.nil, Fr.refl H⟩
          apply pure_of _ (d_law_joined _ H) rfl
          rotate_left 2
          · simp (disch := first | with_reducible rfl | assumption | omega | rfl | (simp only [go_sem]; first | done | omega)) only [go_sem, ↓reduceIte, reduceCtorEq, Nat.reduceEqDiff, Nat.reduceAdd, Nat.reduceSub, Nat.reduceMul, Nat.reduceDiv, Nat.reduceMod, Nat.reduceLeDiff, Nat.reduceLT, Nat.reduceBEq, Int.reduceEq, Int.reduceBEq, Int.reduceBNe, Int.reduceLT, Int.reduceLE, Int.reduceAdd, Int.reduceSub, Int.reduceNeg, Int.reduceToNat, Int.reducePow, Nat.reducePow, Int.reduceMul, Int.reduceDiv, ↓s_law_joined, z1, hlen, hne, i1, c1, enterK_eq hp, w1, e2]
            rfl
          · exact s'
        | some o =>
          obtain ⟨out', H', so, e2⟩ := g2 o ho
          have e2 : ∀ K : K, l_law_joined_3 v (.int .i64 (prX p)) (.int .i64 (prN p)) (.slice none 0 0) (.int .i64 0) H (blkK [10, 27] 6 K) = K .normal [(10, .int .i64 (prX p)), (27, out')] H' := e2
          have hol := outs_len hsz ho
          have hck := q_lcheck o out' H' so.own.rd (by omega)
          by_cases hx : adl o = prX p
          · have hx' : (adl o = prX p) = True := by simp [hx]
            simp only [hx, if_true]
            have key : s_law_joined guardK condL shareL Try.prog CC l_law_joined_0 l_law_joined_1 l_law_joined_2 l_law_joined_3 l_law_joined_4 v H (endK Try.prog [.tmp 2, .tmp 3]) = some (.tuple #[out', .int .i64 0], H') := by
              simp (disch := first | with_reducible rfl | assumption | omega | rfl | (simp only [go_sem]; first | done | omega)) only [go_sem, ↓reduceIte, reduceCtorEq, Nat.reduceEqDiff, Nat.reduceAdd, Nat.reduceSub, Nat.reduceMul, Nat.reduceDiv, Nat.reduceMod, Nat.reduceLeDiff, Nat.reduceLT, Nat.reduceBEq, Int.reduceEq, Int.reduceBEq, Int.reduceBNe, Int.reduceLT, Int.reduceLE, Int.reduceAdd, Int.reduceSub, Int.reduceNeg, Int.reduceToNat, Int.reducePow, Nat.reducePow, Int.reduceMul, Int.reduceDiv, ↓s_law_joined, z1, hlen, hne, i1, c1, enterK_eq hp, w1, e2, enterK_eq hck, hx']
            obtain ⟨H2, h2, h3⟩ := tidy_fr (v := .tuple #[out', .int .i64 0]) so.still
            refine ⟨out', H2, (d_law_joined _ H key).trans (by rw [h2]), ?_, h3⟩
            unfold tidy at h2
            split at h2
            · rename_i hg
              cases h2
              have : out' = .slice none 0 0 := by
                rcases so.own with ⟨_, h⟩ | ⟨_, a, rfl, _⟩ | ⟨b, o', c, xs, rfl, _⟩
                · exact h
                · simp [gr] at hg
                · simp [gr] at hg
              subst this
              rcases so.own with ⟨h, _⟩ | ⟨_, a, h, _⟩ | ⟨b, o', c, xs, h, _⟩
              · rw [h]; exact RdS.nil
              · cases h
              · cases h
            · cases h2
              exact so.own.sl
          · simp only [hx, if_false]
            refine ⟨.slice none 0 0, H, ?_, RdS.nil, Fr.refl H⟩
            apply pure_of _ (d_law_joined _ H) rfl
            rotate_left 2
            · simp (disch := first | with_reducible rfl | assumption | omega | rfl | (simp only [go_sem]; first | done | omega)) only [go_sem, ↓reduceIte, reduceCtorEq, Nat.reduceEqDiff, Nat.reduceAdd, Nat.reduceSub, Nat.reduceMul, Nat.reduceDiv, Nat.reduceMod, Nat.reduceLeDiff, Nat.reduceLT, Nat.reduceBEq, Int.reduceEq, Int.reduceBEq, Int.reduceBNe, Int.reduceLT, Int.reduceLE, Int.reduceAdd, Int.reduceSub, Int.reduceNeg, Int.reduceToNat, Int.reducePow, Nat.reducePow, Int.reduceMul, Int.reduceDiv, ↓s_law_joined, z1, hlen, hne, i1, c1, enterK_eq hp, w1, e2, enterK_eq hck, hx]
              rfl
            · exact so.still

end Go.Proofs.Ytehnchfnhbmkdaa

/-
  Chapter 48: the map of Join, in plain words.
  Conditions: none. By an AI agent.
-/
set_option maxRecDepth 10000
set_option linter.unusedSimpArgs false
set_option linter.unusedVariables false
namespace Go.Proofs.Ytehnchfnhbmkdaa
open Go Eng

theorem sub_len {α : Type} [DecidableEq α] {a b : List α} (hn : a.Nodup) (hs : ∀ x ∈ a, x ∈ b) : a.length ≤ b.length := hn.length_le_of_subset hs

/-- The map behind some pieces. -/
def esOf (pre : List (List UInt8)) : List (Int × List UInt8) := pre.foldl (fun es p => putE es (prI p) (p.drop 8)) []
theorem esOf_snoc (pre : List (List UInt8)) (p : List UInt8) : esOf (pre ++ [p]) = putE (esOf pre) (prI p) (p.drop 8) := by simp [esOf]
structure Cons (pre : List (List UInt8)) : Prop where
  fwd : ∀ q ∈ pre, lkp (esOf pre) (prI q) = some (q.drop 8)
  bwd : ∀ i s, lkp (esOf pre) i = some s → ∃ q ∈ pre, prI q = i ∧ q.drop 8 = s
  nod : ((esOf pre).map (·.1)).Nodup
theorem Cons.nil : Cons [] := ⟨fun q h => by simp at h, fun i s h => by simp [esOf, lkp] at h, by simp [esOf]⟩
theorem Cons.ag {pre : List (List UInt8)} (c : Cons pre) (p : List UInt8) : pre.all (agP p) = true ↔ (lkp (esOf pre) (prI p) = none ∨ lkp (esOf pre) (prI p) = some (p.drop 8)) := by
  rw [List.all_eq_true]
  constructor
  · intro h
    cases hk : lkp (esOf pre) (prI p) with
    | none => exact .inl rfl
    | some s =>
      obtain ⟨q, hq, h1, rfl⟩ := c.bwd _ _ hk
      have := h q hq
      simp [agP, h1] at this
      exact .inr (by rw [this])
  · intro h q hq
    unfold agP
    by_cases h1 : prI q = prI p
    · have h2 := c.fwd q hq
      rw [h1] at h2
      rw [h2] at h
      rcases h with h | h
      · cases h
      · have := Option.some.inj h
        simp [this]
    · simp [h1]
theorem Cons.snoc {pre : List (List UInt8)} (c : Cons pre) {p : List UInt8} (h : pre.all (agP p) = true) : Cons (pre ++ [p]) := by
  have ha := List.all_eq_true.1 h
  refine ⟨fun q hq => ?_, fun i s hs => ?_, ?_⟩
  · rw [esOf_snoc, lkp_put]
    rcases List.mem_append.1 hq with hq | hq
    · by_cases h1 : prI p = prI q
      · rw [if_pos h1]
        have := ha q hq
        simp [agP, h1.symm] at this
        rw [this]
      · rw [if_neg h1]; exact c.fwd q hq
    · simp at hq; subst hq; simp
  · rw [esOf_snoc, lkp_put] at hs
    split at hs
    · rename_i h1
      cases hs
      exact ⟨p, by simp, h1, rfl⟩
    · obtain ⟨q, h1, h2⟩ := c.bwd i s hs
      exact ⟨q, by simp [h1], h2⟩
  · rw [esOf_snoc]; exact keys_put_nodup c.nod _ _
theorem ok11_cons {x n : Int} : ∀ {t pre : List (List UInt8)}, Cons pre → ok11 x n pre t = true → Cons (pre ++ t) ∧ ∀ p ∈ t, prX p = x ∧ prN p = n
  | [], pre, c, _ => by simpa using c
  | p :: t, pre, c, h => by
    rw [ok11] at h
    simp only [Bool.and_eq_true] at h
    obtain ⟨h1, h2⟩ := h
    unfold cdP at h1
    simp only [Bool.and_eq_true, decide_eq_true_eq] at h1
    obtain ⟨g1, g2⟩ := ok11_cons (c.snoc h1.2.2) h2
    rw [List.append_assoc, List.singleton_append] at g1
    refine ⟨g1, fun q hq => ?_⟩
    rcases List.mem_cons.1 hq with rfl | hq
    · exact ⟨h1.1, h1.2.1⟩
    · exact g2 q hq

theorem fnd_none {ls : List (List UInt8)} {i : Int} : fnd ls i = none ↔ ∀ p ∈ ls, prI p ≠ i := by
  induction ls with
  | nil => simp [fnd]
  | cons p t ih =>
    rw [fnd]
    by_cases h : prI p = i
    · simp [h]
    · simp [h, ih]
theorem fnd_lkp {ls : List (List UInt8)} (c : Cons ls) (i : Int) : fnd ls i = lkp (esOf ls) i := by
  cases h : fnd ls i with
  | none =>
    cases h2 : lkp (esOf ls) i with
    | none => rfl
    | some s =>
      obtain ⟨q, h3, h4, _⟩ := c.bwd i s h2
      exact absurd h4 (fnd_none.1 h q h3)
  | some s =>
    obtain ⟨p, h1, h2, rfl⟩ := fnd_len h
    rw [← h2, c.fwd p h1]

/-- All parts are there. -/
theorem outs_some {ls : List (List UInt8)} : ∀ {n : Nat}, (outs ls n).isSome = true ↔ ∀ k, k < n → (fnd ls (k : Int)).isSome = true
  | 0 => by simp [outs]
  | n + 1 => by
    have ih := outs_some (ls := ls) (n := n)
    rw [outs]
    constructor
    · intro h k hk
      cases h1 : outs ls n with
      | none => rw [h1] at h; simp at h
      | some o =>
        rw [h1] at h
        simp at h
        by_cases hkn : k = n
        · subst hkn; exact h
        · exact ih.1 (by rw [h1]; rfl) k (by omega)
    · intro h
      have h1 := ih.2 fun k hk => h k (by omega)
      obtain ⟨o, ho⟩ := Option.isSome_iff_exists.1 h1
      obtain ⟨s, hs⟩ := Option.isSome_iff_exists.1 (h n (by omega))
      rw [ho, hs]
      rfl

theorem count_le {ls : List (List UInt8)} (c : Cons ls) {n : Nat} (hk : ∀ p ∈ ls, 0 ≤ prI p ∧ prI p < n) : (esOf ls).length ≤ n := by
  have h := sub_len (b := (List.range n).map fun (k : Nat) => (k : Int)) c.nod fun x hx => by
    obtain ⟨q, h1, h2, _⟩ := c.bwd x _ (Option.get_mem (o := lkp (esOf ls) x) (lkp_key.2 hx))
    have := hk q h1
    rw [h2] at this
    exact List.mem_map.2 ⟨x.toNat, List.mem_range.2 (by omega), by omega⟩
  simpa using h
theorem count_ge {ls : List (List UInt8)} (c : Cons ls) {n : Nat} (ho : (outs ls n).isSome = true) : n ≤ (esOf ls).length := by
  have h := sub_len (a := (List.range n).map fun (k : Nat) => (k : Int)) (b := (esOf ls).map (·.1)) (by
    rw [List.Nodup, List.pairwise_map]
    exact List.nodup_range.imp fun h he => h (by omega)) fun x hx => by
    obtain ⟨k, hk, rfl⟩ := List.mem_map.1 hx
    have := outs_some.1 ho k (List.mem_range.1 hk)
    rw [fnd_lkp c] at this
    exact lkp_key.1 this
  simpa using h
theorem count_lt {ls : List (List UInt8)} (c : Cons ls) {n : Nat} (hk : ∀ p ∈ ls, 0 ≤ prI p ∧ prI p < n) : (esOf ls).length < n ↔ outs ls n = none := by
  constructor
  · intro h
    cases ho : outs ls n with
    | none => rfl
    | some o => have := count_ge c (n := n) (by rw [ho]; rfl); omega
  · intro h
    have hne : ¬ ∀ k, k < n → (fnd ls (k : Int)).isSome = true := fun h2 => by
      have := outs_some.2 h2
      rw [h] at this; cases this
    obtain ⟨k, hk1⟩ := Classical.not_forall.1 hne
    have hkn : k < n := by
      rcases Nat.lt_or_ge k n with h | h
      · exact h
      · exact absurd (fun h2 => by omega) hk1
    have hkf : ¬ (fnd ls (k : Int)).isSome = true := fun h2 => hk1 fun _ => h2
    have h := sub_len (b := ((List.range n).erase k).map fun (k : Nat) => (k : Int)) c.nod fun x hx => by
      obtain ⟨q, h1, h2, _⟩ := c.bwd x _ (Option.get_mem (o := lkp (esOf ls) x) (lkp_key.2 hx))
      have := hk q h1
      rw [h2] at this
      refine List.mem_map.2 ⟨x.toNat, (List.mem_erase_of_ne fun he => ?_).2 (List.mem_range.2 (by omega)), by omega⟩
      have hx' : x = (k : Int) := by omega
      rw [fnd_lkp c, ← hx'] at hkf
      exact hkf (lkp_key.2 hx)
    rw [List.length_map, List.length_map, List.length_erase_of_mem (List.mem_range.2 hkn), List.length_range] at h
    omega

end Go.Proofs.Ytehnchfnhbmkdaa
