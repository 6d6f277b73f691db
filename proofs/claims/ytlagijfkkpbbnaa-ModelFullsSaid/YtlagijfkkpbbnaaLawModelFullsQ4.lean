/-
  13 texts in one (merge.py): Eng26 M1 M2 M3 M4 Ord M5 M6 P R A R2 R3.
  Conditions: none. By an AI agent.
-/
import Derived.Test.YtlagijfkkpbbnaaLawModelFullsQ3
import Derived.Laws.StructEq

/-
  The engine, part 26: structs of plain fields, compared.
  Conditions: none. By an AI agent.
-/
namespace Go.Proofs.Ytlagijfkkpbbnaa.Eng
open Go
set_option linter.unusedVariables false
set_option linter.unusedSimpArgs false

variable {P : Program} {H : AHeap}

theorem pv_bind {α β : Type} {P : Program} : ∀ (s : Sem α) (f : α → Sem β), pv P (s.bind f) = (pv P s).bind fun a => pv P (f a)
  | .pure a, f => rfl
  | .program k, f => pv_bind (k P) f
  | .load m a k, f => rfl
  | .store m a v k, f => rfl
  | .new o k, f => rfl
  | .shape r k, f => rfl
  | .freeze a n k, f => rfl
  | .frozen a k, f => rfl
  | .getObj r k, f => rfl
  | .setObj r o k, f => rfl
  | .choose q k, f => rfl
  | .sys c k, f => rfl
  | .mark m k, f => rfl
  | .halt h, f => rfl
theorem pv_bind' {α β : Type} (s : Sem α) (f : α → Sem β) : pv P (s >>= f) = (pv P s).bind fun a => pv P (f a) := pv_bind s f
theorem pv_pure {α : Type} (a : α) : pv P (pure a : Sem α) = some a := rfl
theorem pv_program : pv P program = some P := rfl
theorem pv_ite {α : Type} {c : Prop} [Decidable c] (a b : Sem α) : pv P (if c then a else b) = if c then pv P a else pv P b := by split <;> rfl
theorem pv_und {t : TypeId} {d : TypeDesc} (h : P.underlying t = some d) : pv P (underlying t) = some d := by
  unfold underlying
  simp only [pv_bind', pv_program, Option.bind_some, h]
  rfl

def ceq : Value → Value → Bool
  | .int _ a, .int _ b => decide (a = b)
  | .string a, .string b => decide (bl a = bl b)
  | .bool a, .bool b => a == b
  | _, _ => false

def ceqs : List Value → List Value → Bool
  | [], [] => true
  | a :: x, b :: y => ceq a b && ceqs x y
  | _, _ => false

def fitC (P : Program) (t : TypeId) (v w : Value) : Bool :=
  match P.underlying t, v, w with
  | some (.int _), .int k _, .int k' _ => k == k'
  | some .string, .string _, .string _ => true
  | some .bool, .bool _, .bool _ => true
  | _, _, _ => false

def fits (P : Program) : List Field → Nat → List Value → List Value → Bool
  | [], _, [], [] => true
  | f :: fs, i, a :: x, b :: y => f.name != "_" && f.offset == i && fitC P f.type a b && fits P fs (i + 1) x y
  | _, _, _, _ => false

theorem bytes_beq (a b : ByteArray) : (a == b) = decide (bl a = bl b) := by
  rw [beq_toListBytes, ByteArray.toList_eq, ByteArray.toList_eq, Bool.beq_eq_decide_eq]
  rfl

theorem pv_cell {t : TypeId} {d : Nat} {a b : Value} (h : fitC P t a b = true) : pv P (Op.equalIn (d + 1) t a b) = some (ceq a b) := by
  unfold fitC at h
  split at h
  · rename_i k k1 x k2 y hu
    have hk : k1 = k2 := by simpa using h
    subst hk
    simp only [Op.equalIn, pv_bind', pv_und hu, Option.bind_some, if_true, pv_pure, ceq, Bool.beq_eq_decide_eq]
  · rename_i x y hu
    simp only [Op.equalIn, pv_bind', pv_und hu, Option.bind_some, pv_pure, ceq, bytes_beq]
  · rename_i x y hu
    simp only [Op.equalIn, pv_bind', pv_und hu, Option.bind_some, pv_pure, ceq]
  · cases h

theorem pv_part {t : TypeId} {a b : Value} (h : fitC P t a b = true) {xs : Array Value} {o : Nat} {v : Value} (hx : xs[o]? = some v) : pv P (part t xs o) = some v := by
  have hagg : pv P (isAgg t) = some false := by
    unfold isAgg
    unfold fitC at h
    split at h
    · rename_i hu; simp only [pv_bind', pv_und hu, Option.bind_some]; rfl
    · rename_i hu; simp only [pv_bind', pv_und hu, Option.bind_some]; rfl
    · rename_i hu; simp only [pv_bind', pv_und hu, Option.bind_some]; rfl
    · cases h
  unfold part
  simp only [pv_bind', hagg, Option.bind_some, Bool.false_eq_true, if_false, hx, pv_pure]

theorem pv_eqFields {d : Nat} : ∀ (fs : List Field) (i : Nat) (xs ys : Array Value) (x y : List Value), (∀ j, xs[i + j]? = x[j]?) → (∀ j, ys[i + j]? = y[j]?) → fits P fs i x y = true →
    pv P (Op.eqFields (d + 1) xs ys fs) = some (ceqs x y)
  | [], i, xs, ys, [], [], _, _, _ => rfl
  | f :: fs, i, xs, ys, a :: x, b :: y, hx, hy, h => by
    simp only [fits, Bool.and_eq_true, bne_iff_ne, ne_eq, beq_iff_eq] at h
    obtain ⟨⟨⟨h1, h2⟩, h3⟩, h4⟩ := h
    have ha : xs[i]? = some a := by simpa using hx 0
    have hb : ys[i]? = some b := by simpa using hy 0
    have ih := pv_eqFields (d := d) fs (i + 1) xs ys x y (fun j => by rw [show i + 1 + j = i + (j + 1) by omega, hx]; rfl) (fun j => by rw [show i + 1 + j = i + (j + 1) by omega, hy]; rfl) h4
    rw [Op.eqFields]
    simp only [ne_eq, h1, not_false_eq_true, if_true, pv_bind', h2, pv_part h3 ha, pv_part h3 hb, Option.bind_some, pv_cell h3, pv_ite, pv_pure, ih, ceqs]
    cases ceq a b <;> simp
  | [], _, _, _, _ :: _, _, _, _, h => by simp [fits] at h
  | [], _, _, _, [], _ :: _, _, _, h => by simp [fits] at h
  | _ :: _, _, _, _, [], _, _, _, h => by simp [fits] at h
  | _ :: _, _, _, _, _ :: _, [], _, _, h => by simp [fits] at h

theorem pv_equalIn_struct {d : Nat} {t : TypeId} {fs : Array Field} (xs ys : Array Value) (ht : P.underlying t = some (.struct fs)) (hp : P.stoodInHeld t = false) :
    pv P (Op.equalIn (d + 1) t (.agg xs) (.agg ys)) = pv P (Op.eqFields d xs ys fs.toList) := by
  simp only [Op.equalIn, pv_bind', pv_und ht, pv_program, Option.bind_some, hp, Bool.false_eq_true, if_false]
  rw [← Array.forIn_toList]
  generalize fs.toList = l
  clear ht
  induction l with
  | nil => simp [Op.eqFields, pv_pure]
  | cons f l ih =>
    simp only [List.forIn_cons, Op.eqFields, pv_bind', pv_ite]
    split
    · cases pv P (part f.type xs f.offset) with
      | none => rfl
      | some a =>
        simp only [Option.bind_some]
        cases pv P (part f.type ys f.offset) with
        | none => rfl
        | some b =>
          simp only [Option.bind_some]
          cases pv P (Op.equalIn d f.type a b) with
          | none => rfl
          | some r =>
            cases r
            · simp [pv_pure]
            · simp only [Option.bind_some, Bool.not_true, Bool.false_eq_true, if_false, pv_pure]
              exact ih
    · simp only [pv_pure, Option.bind_some]
      exact ih

theorem pv_equal {t : TypeId} {fs : Array Field} {xs ys : List Value} (ht : P.underlying t = some (.struct fs)) (hp : P.stoodInHeld t = false) (hf : fits P fs.toList 0 xs ys = true) :
    pv P (Op.equal t (.agg ⟨xs⟩) (.agg ⟨ys⟩)) = some (ceqs xs ys) := by
  have h := pv_equalIn_struct (P := P) (d := 9999) (t := t) ⟨xs⟩ ⟨ys⟩ ht hp
  have h2 := pv_eqFields (P := P) (d := 9998) fs.toList 0 ⟨xs⟩ ⟨ys⟩ xs ys (fun j => by simp) (fun j => by simp) hf
  exact h.trans h2

theorem agg_eq {t : TypeId} {fs : Array Field} {xs ys : List Value} {ox oy : Operand} (ht : P.underlying t = some (.struct fs)) (hp : P.stoodInHeld t = false) (hg : P.eqGuardType P.depth t = false) (hf : fits P fs.toList 0 xs ys = true)
    (g1 : gr 9 (.agg ⟨xs⟩) = true) (g2 : gr 9 (.agg ⟨ys⟩) = true) : xbin P .eql t ox oy (.agg ⟨xs⟩) (.agg ⟨ys⟩) = some (.bool (ceqs xs ys)) := by
  have e : xbin P .eql t ox oy (.agg ⟨xs⟩) (.agg ⟨ys⟩) = if gr 9 (.agg ⟨xs⟩) && gr 9 (.agg ⟨ys⟩) then pvg P (do eqGuard .eql t ox oy (.agg ⟨xs⟩) (.agg ⟨ys⟩); binOp .eql t (.agg ⟨xs⟩) (.agg ⟨ys⟩)) else (nilTest P t (.agg ⟨xs⟩) (.agg ⟨ys⟩)).map .bool := rfl
  rw [e, g1, g2]
  simp only [Bool.and_self, if_true]
  refine pvg_some ?_ rfl
  simp only [eqGuard, binOp, pv_bind', pv_program, Option.bind_some, hg, Bool.not_false, if_true, pv_pure, Bool.not_true, Bool.false_eq_true, if_false, pv_equal ht hp hf]
theorem agg_ne {t : TypeId} {fs : Array Field} {xs ys : List Value} {ox oy : Operand} (ht : P.underlying t = some (.struct fs)) (hp : P.stoodInHeld t = false) (hg : P.eqGuardType P.depth t = false) (hf : fits P fs.toList 0 xs ys = true)
    (g1 : gr 9 (.agg ⟨xs⟩) = true) (g2 : gr 9 (.agg ⟨ys⟩) = true) : xbin P .neq t ox oy (.agg ⟨xs⟩) (.agg ⟨ys⟩) = some (.bool (!ceqs xs ys)) := by
  have e : xbin P .neq t ox oy (.agg ⟨xs⟩) (.agg ⟨ys⟩) = if gr 9 (.agg ⟨xs⟩) && gr 9 (.agg ⟨ys⟩) then pvg P (do eqGuard .neq t ox oy (.agg ⟨xs⟩) (.agg ⟨ys⟩); binOp .neq t (.agg ⟨xs⟩) (.agg ⟨ys⟩)) else (nilTest P t (.agg ⟨xs⟩) (.agg ⟨ys⟩)).map fun b => .bool !b := rfl
  rw [e, g1, g2]
  simp only [Bool.and_self, if_true]
  refine pvg_some ?_ rfl
  simp only [eqGuard, binOp, pv_bind', pv_program, Option.bind_some, hg, Bool.not_false, if_true, pv_pure, Bool.not_true, Bool.false_eq_true, if_false, pv_equal ht hp hf]

/-! ### With fuel again: for what the kernel can reckon -/
def finLP (n : Nat) : LoopH := fun body keep T H k => dLoopK body keep n T H k

theorem dCodeL_fin {P : Program} {N n : Nat} {call : CallF} : ∀ (c : DCode), PieceK (dCode P N call n c) (dCodeL stdL P N call (finLP n) c)
  | .skip => fun _ _ _ => rfl
  | .region id ops draw => fun T H k => dCodeK_eq (P := P) (N := N) (call := call) (n := n) (.region id ops draw) T H k
  | .seq a b => fun T H k => by
    rw [dCodeL, dCode, dCodeL_fin a]
    cases dCode P N call n a T H with
    | none => rfl
    | some r =>
      obtain ⟨e, T', H'⟩ := r
      cases e with
      | normal => simp only [Option.bind_some, seqK]; exact dCodeL_fin b T' H' k
      | exit i => rfl
      | ret => rfl
  | .cond keep c x y => fun T H k => by
    rw [dCodeL, dCode, stdL_c]
    unfold condL
    cases ev T c with
    | bool b =>
      cases b with
      | true =>
        have hx := dCodeL_fin (P := P) (N := N) (call := call) (n := n) x T H (afterK keep k)
        simp only [if_true]
        rw [hx]
        cases dCode P N call n x T H with
        | none => rfl
        | some r => obtain ⟨e, T', H'⟩ := r; cases e <;> rfl
      | false =>
        have hy := dCodeL_fin (P := P) (N := N) (call := call) (n := n) y T H (afterK keep k)
        simp only [Bool.false_eq_true, if_false]
        rw [hy]
        cases dCode P N call n y T H with
        | none => rfl
        | some r => obtain ⟨e, T', H'⟩ := r; cases e <;> rfl
    | _ => rfl
  | .block keep id b => fun T H k => by
    rw [dCodeL, dCode, stdL_s]
    unfold shareL
    dsimp only
    rw [dCodeL_fin b]
    cases dCode P N call n b T H with
    | none => rfl
    | some r =>
      obtain ⟨e, T', H'⟩ := r
      cases e with
      | normal => rfl
      | exit j => simp only [Option.bind_some, Option.map_some, blkK]; split <;> rfl
      | ret => rfl
  | .loop keep b => fun T H k => by
    rw [dCodeL, dCode]
    exact dLoopK_eq (dCodeL_fin b) keep n T H k
  | .exit id => fun _ _ _ => rfl
  | .ret keep => fun _ _ _ => rfl
  | .bad c => fun _ _ _ => rfl

theorem dBody_fin {hints : Hints} {call : CallF} {n : Nat} {f : FuncId} {args : List Value} : dBody P hints call n f args H = dBodyL stdL P hints call (finLP n) f args H := by
  unfold dBody dBodyL
  cases hf : P.funcs[f]? with
  | none => rfl
  | some fn =>
    simp only
    cases hb : fn.body with
    | none => rfl
    | some c =>
      simp only
      rw [dCodeL_fin]
      congr 1
      funext r
      obtain ⟨x, T, H⟩ := r
      cases x with
      | normal => simp only [endK]; rw [resValsK_eq]; cases resVals P H T _ <;> rfl
      | exit i => rfl
      | ret => simp only [endK]; rw [resValsK_eq]; cases resVals P H T _ <;> rfl

/-- A law's run, by the value alone. -/
theorem run_fst {prims : Prims} {hints : Hints} {n : Nat} {f : FuncId} {args : List Value} (hp : prims f = none) (h : (dBodyL stdL P hints (dCall P prims hints n) (finLP n) f args H).map (·.1) = some (.bool true)) :
    ∃ k H', dCall P prims hints k f args H = some (.bool true, H') := by
  refine ⟨n + 1, ?_⟩
  have e : dCall P prims hints (n + 1) f args H = (dBody P hints (dCall P prims hints n) n f args H).map (tidy H) := by simp only [dCall, hp]
  rw [e, dBody_fin]
  cases hq : dBodyL stdL P hints (dCall P prims hints n) (finLP n) f args H with
  | none => rw [hq] at h; cases h
  | some r =>
    rw [hq] at h
    obtain ⟨v, H1⟩ := r
    simp at h
    subst h
    simp only [Option.map_some, tidy]
    split <;> exact ⟨_, rfl⟩

end Go.Proofs.Ytlagijfkkpbbnaa.Eng

/-
  The plain map: strings compared; slices of pairs: Clone, Insert, Delete.
  Conditions: none. By an AI agent.
-/
set_option maxRecDepth 10000
set_option linter.unusedSimpArgs false
set_option linter.unusedVariables false
namespace Go.Proofs.Ytlagijfkkpbbnaa
open Go Eng

theorem k_known (H : AHeap) : CC F.law_known [] H = some (.bool true, H) := D_prim (show prims1 F.law_known = some trueP by kernel_rfl) rfl
@[go_sem, go_sem ↓] theorem e_known {H : AHeap} {k : Value → AHeap → Res} : enterK CC F.law_known [] H k = k (.bool true) H := enterK_eq (k_known H)
@[go_sem] theorem bool_ne {ox oy : Operand} {a b : Bool} : xbin Try.prog .neq T.bool ox oy (.bool a) (.bool b) = some (.bool (a != b)) := by
  cases a <;> cases b <;> kernel_rfl
@[go_sem] theorem mp_nil {ox oy : Operand} : xbin Try.prog .eql T.p_model_Model ox oy (.pointer none) (.pointer none) = some (.bool true) := by kernel_rfl
@[go_sem] theorem mp_some {ox oy : Operand} {a : Addr} : xbin Try.prog .eql T.p_model_Model ox oy (.pointer (some a)) (.pointer none) = some (.bool false) := by kernel_rfl

/-- A pair. -/
structure Pr where
  key : ByteArray
  value : ByteArray

def EPr : Enc Pr := ⟨2, fun a => [.string a.key, .string a.value], fun _ => rfl, by decide, fun _ => rfl⟩
def EStr : Enc ByteArray := ⟨1, fun a => [.string a], fun _ => rfl, by decide, fun _ => rfl⟩

/-! Comparing -/
def cmpS (a b : ByteArray) : Int := Lib.compareBytes (bl a) (bl b)

theorem q_CompareString (a b : ByteArray) (H : AHeap) : CC F.internal_bytealg_CompareString [.string a, .string b] H = some (.int .i64 (cmpS a b), H) := by
  have h : ∀ H, xext Try.prog Try.f65 [.string a, .string b] H = some (.int .i64 (cmpS a b)) := fun H => by kernel_rfl
  apply pure_of _ (d_internal_bytealg_CompareString _ _ H) rfl
  rotate_left 2
  · simp (disch := first | with_reducible rfl | assumption | omega | rfl | (simp only [go_sem]; first | done | omega)) only [go_sem, ↓reduceIte, reduceCtorEq, Nat.reduceEqDiff, Nat.reduceAdd, Nat.reduceSub, Nat.reduceMul, Nat.reduceDiv, Nat.reduceMod, Nat.reduceLeDiff, Nat.reduceLT, Nat.reduceBEq, Int.reduceEq, Int.reduceBEq, Int.reduceBNe, Int.reduceLT, Int.reduceLE, Int.reduceAdd, Int.reduceSub, Int.reduceNeg, Int.reduceToNat, Int.reducePow, Nat.reducePow, Int.reduceMul, Int.reduceDiv, ↓s_internal_bytealg_CompareString, h]
    rfl
  · (repeat (first | exact Fr.refl _ | refine Fr.push ?_ _ | refine Fr.set ?_ _ _ (by intro h; first | omega | (simp only [go_sem] at h; omega))))
@[go_sem, go_sem ↓] theorem e_CompareString (a b : ByteArray) (H : AHeap) {k : Value → AHeap → Res} : enterK CC F.internal_bytealg_CompareString [.string a, .string b] H k = k (.int .i64 (cmpS a b)) H := enterK_eq (q_CompareString a b H)
theorem q_SCompare (a b : ByteArray) (H : AHeap) : CC F.strings_Compare [.string a, .string b] H = some (.int .i64 (cmpS a b), H) := by
  apply pure_of _ (d_strings_Compare _ _ H) rfl
  rotate_left 2
  · simp (disch := first | with_reducible rfl | assumption | omega | rfl | (simp only [go_sem]; first | done | omega)) only [go_sem, ↓reduceIte, reduceCtorEq, Nat.reduceEqDiff, Nat.reduceAdd, Nat.reduceSub, Nat.reduceMul, Nat.reduceDiv, Nat.reduceMod, Nat.reduceLeDiff, Nat.reduceLT, Nat.reduceBEq, Int.reduceEq, Int.reduceBEq, Int.reduceBNe, Int.reduceLT, Int.reduceLE, Int.reduceAdd, Int.reduceSub, Int.reduceNeg, Int.reduceToNat, Int.reducePow, Nat.reducePow, Int.reduceMul, Int.reduceDiv, ↓s_strings_Compare, e_CompareString]
    rfl
  · (repeat (first | exact Fr.refl _ | refine Fr.push ?_ _ | refine Fr.set ?_ _ _ (by intro h; first | omega | (simp only [go_sem] at h; omega))))
@[go_sem, go_sem ↓] theorem e_SCompare (a b : ByteArray) (H : AHeap) {k : Value → AHeap → Res} : enterK CC F.strings_Compare [.string a, .string b] H k = k (.int .i64 (cmpS a b)) H := enterK_eq (q_SCompare a b H)
theorem q_KCompare (a b : ByteArray) (H : AHeap) : CC F.keys_Compare [.string a, .string b] H = some (.int .i64 (cmpS a b), H) := by
  apply pure_of _ (d_keys_Compare _ _ H) rfl
  rotate_left 2
  · simp (disch := first | with_reducible rfl | assumption | omega | rfl | (simp only [go_sem]; first | done | omega)) only [go_sem, ↓reduceIte, reduceCtorEq, Nat.reduceEqDiff, Nat.reduceAdd, Nat.reduceSub, Nat.reduceMul, Nat.reduceDiv, Nat.reduceMod, Nat.reduceLeDiff, Nat.reduceLT, Nat.reduceBEq, Int.reduceEq, Int.reduceBEq, Int.reduceBNe, Int.reduceLT, Int.reduceLE, Int.reduceAdd, Int.reduceSub, Int.reduceNeg, Int.reduceToNat, Int.reducePow, Nat.reducePow, Int.reduceMul, Int.reduceDiv, ↓s_keys_Compare, e_SCompare]
    rfl
  · (repeat (first | exact Fr.refl _ | refine Fr.push ?_ _ | refine Fr.set ?_ _ _ (by intro h; first | omega | (simp only [go_sem] at h; omega))))
@[go_sem, go_sem ↓] theorem e_KCompare (a b : ByteArray) (H : AHeap) {k : Value → AHeap → Res} : enterK CC F.keys_Compare [.string a, .string b] H k = k (.int .i64 (cmpS a b)) H := enterK_eq (q_KCompare a b H)

@[go_sem] theorem sl_nil_Pair {ox oy : Operand} : xbin Try.prog .eql T.sl_api_Pair ox oy (.slice none 0 0) (.slice none 0 0) = some (.bool true) := by kernel_rfl
@[go_sem] theorem sl_some_Pair {ox oy : Operand} {a : Addr} {n c : Nat} : xbin Try.prog .eql T.sl_api_Pair ox oy (.slice (some a) n c) (.slice none 0 0) = some (.bool false) := by kernel_rfl

theorem q_clone_Pair (l : List Pr) (v : Value) (H : AHeap) (hr : Rd EPr H v l) (hl : l.length ≤ 1000000000000) :
    ∃ v' H', CC F.slices_Clone_Pair [v] H = some (v', H') ∧ Own EPr H' T.api_Pair v' l ∧ Still H H' ∧ ∀ b, blockOf v' = some b → H.n ≤ b := by
  have hsrc : ∀ H1, Still H H1 → srcS 2 v H1 = some (l.length, EPr.cells l) := fun H1 h => (hr.still h).src rfl
  have s1 : Still H (H.push (.cells [] T.api_Pair true)) := (Fr.refl H).push _
  have hs := hsrc _ s1
  by_cases hn : v = .slice none 0 0
  · have hl0 : l = [] := by
      rcases hr with h | h | ⟨b, o, c, h, _⟩
      · exact h.1
      · exact h.1
      · rw [hn] at h; cases h
    subst hn hl0
    refine ⟨.slice none 0 0, H, ?_, .inl ⟨rfl, rfl⟩, Fr.refl H, fun b h => by cases h⟩
    apply pure_of _ (d_slices_Clone_Pair _ H) rfl
    rotate_left 2
    · simp (disch := first | with_reducible rfl | assumption | omega | rfl | (simp only [go_sem]; first | done | omega)) only [go_sem, ↓reduceIte, reduceCtorEq, Nat.reduceEqDiff, Nat.reduceAdd, Nat.reduceSub, Nat.reduceMul, Nat.reduceDiv, Nat.reduceMod, Nat.reduceLeDiff, Nat.reduceLT, Nat.reduceBEq, Int.reduceEq, Int.reduceBEq, Int.reduceBNe, Int.reduceLT, Int.reduceLE, Int.reduceAdd, Int.reduceSub, Int.reduceNeg, Int.reduceToNat, Int.reducePow, Nat.reducePow, Int.reduceMul, Int.reduceDiv, ↓s_slices_Clone_Pair]
      rfl
    · (repeat (first | exact Fr.refl _ | refine Fr.push ?_ _ | refine Fr.set ?_ _ _ (by intro h; first | omega | (simp only [go_sem] at h; omega))))
  · obtain ⟨a, n, c, hv⟩ : ∃ a n c, v = .slice (some a) n c := by
      rcases hr with h | ⟨_, a, k, h, _⟩ | ⟨b, o, c, h, _⟩
      · exact absurd h.2 hn
      · exact ⟨_, _, _, h⟩
      · exact ⟨_, _, _, h⟩
    have hnil : ∀ ox oy, xbin Try.prog .eql T.sl_api_Pair ox oy v (.slice none 0 0) = some (.bool false) := fun ox oy => by rw [hv]; exact sl_some_Pair
    have ho : Own EPr (H.push (.cells [] T.api_Pair true)) T.api_Pair (.slice (some ⟨H.n, 0, none⟩) 0 0) [] := .inr (.inl ⟨rfl, _, rfl, rfl, by simp⟩)
    by_cases hl0 : l = []
    · subst hl0
      refine ⟨.slice (some ⟨H.n, 0, none⟩) 0 0, H.push (.cells [] T.api_Pair true), ?_, ho, s1, fun b h => by cases h; exact Nat.le_refl _⟩
      have happ : app T.api_Pair 2 32 (.slice (some ⟨H.n, 0, none⟩) 0 0) (srcS 2 v (H.push (.cells [] T.api_Pair true))) (H.push (.cells [] T.api_Pair true)) = some (.slice (some ⟨H.n, 0, none⟩) 0 0, H.push (.cells [] T.api_Pair true)) := by rw [hs]; rfl
      refine (d_slices_Clone_Pair _ H ?_).trans (congrArg some (tidy_mem (v := .slice (some ⟨H.n, 0, none⟩) 0 0) (H' := H.push (.cells [] T.api_Pair true)) rfl))
      simp (disch := first | with_reducible rfl | assumption | omega | rfl | (simp only [go_sem]; first | done | omega)) only [go_sem, ↓reduceIte, reduceCtorEq, Nat.reduceEqDiff, Nat.reduceAdd, Nat.reduceSub, Nat.reduceMul, Nat.reduceDiv, Nat.reduceMod, Nat.reduceLeDiff, Nat.reduceLT, Nat.reduceBEq, Int.reduceEq, Int.reduceBEq, Int.reduceBNe, Int.reduceLT, Int.reduceLE, Int.reduceAdd, Int.reduceSub, Int.reduceNeg, Int.reduceToNat, Int.reducePow, Nat.reducePow, Int.reduceMul, Int.reduceDiv, ↓s_slices_Clone_Pair, hnil, happ]
    · obtain ⟨v', H', happ, hown, hfr, hb, hg⟩ := ho.app (m := l) hl0 (sz := 2) (bytes := 32) rfl (by simp; omega) (by simp; omega) hs
      refine ⟨v', H', ?_, hown, ?_, ?_⟩
      · refine (d_slices_Clone_Pair _ H ?_).trans (congrArg some (tidy_mem (v := v') (H' := H') hg))
        simp (disch := first | with_reducible rfl | assumption | omega | rfl | (simp only [go_sem]; first | done | omega)) only [go_sem, ↓reduceIte, reduceCtorEq, Nat.reduceEqDiff, Nat.reduceAdd, Nat.reduceSub, Nat.reduceMul, Nat.reduceDiv, Nat.reduceMod, Nat.reduceLeDiff, Nat.reduceLT, Nat.reduceBEq, Int.reduceEq, Int.reduceBEq, Int.reduceBNe, Int.reduceLT, Int.reduceLE, Int.reduceAdd, Int.reduceSub, Int.reduceNeg, Int.reduceToNat, Int.reducePow, Nat.reducePow, Int.reduceMul, Int.reduceDiv, ↓s_slices_Clone_Pair, hnil, happ]
      · refine s1.then hfr fun b hb h => ?_
        unfold OnlyOf at h
        simp [blockOf] at h
        omega
      · intro b h
        rcases hb with hb | hb
        · rw [hb] at h
          simp [blockOf] at h
          omega
        · rw [hb] at h
          simp at h
          omega

/-! ### Insert -/
theorem ins_loop_Pair : noLoop (codeOf Try.prog hints F.slices_Insert_Pair) = true := by kernel_rfl

theorem q_insert_Pair (l : List Pr) (v : Value) (a : Pr) (bv i : Nat) (H : AHeap) (hr : Own EPr H T.api_Pair v l) (hl : l.length ≤ 1000000000000) (hi : i ≤ l.length) (hbn : bv < H.n) (hbv : H.f bv = .cells [.string a.key, .string a.value] T.api_Pair true) (hne : blockOf v ≠ some bv) :
    ∃ v' H', CC F.slices_Insert_Pair [v, .int .i64 (i : Int), .slice (some ⟨bv, 0, none⟩) 1 2] H = some (v', H') ∧ Own EPr H' T.api_Pair v' (l.take i ++ a :: l.drop i) ∧ Fr (OnlyOf v) H H' ∧
      (blockOf v' = blockOf v ∨ ∃ b, blockOf v' = some b ∧ H.n ≤ b) := by
  have hp : prims1 F.slices_Insert_Pair = some (insP Try.prog hints 52 31 zIns0) := by kernel_rfl
  have hsrc : srcS 2 (.slice (some ⟨bv, 0, none⟩) 1 2) H = some ([a].length, EPr.cells [a]) := by
    unfold srcS
    simp only [cut_b, hbv, Nat.one_ne_zero, if_false]
    rfl
  by_cases hin : i = l.length
  · subst hin
    obtain ⟨v', H', happ, hown, hfr, hb, hg⟩ := hr.app (m := [a]) (by simp) (sz := 2) (bytes := 32) rfl (by simp; omega) (by simp; omega) hsrc
    obtain ⟨w, hw, _, _⟩ := hr.drop (sz := 2) (q := .i64) rfl (Nat.le_refl l.length)
    have hlen := hr.rd.lenS
    refine ⟨v', H', ?_, by simpa using hown, hfr, hb.imp id fun h => ⟨_, h, Nat.le_refl _⟩⟩
    refine D_prim hp ?_
    have hbody : dBody Try.prog hints (fun _ _ _ => none) 1 F.slices_Insert_Pair [v, .int .i64 (l.length : Int), .slice (some ⟨bv, 0, none⟩) 1 2] H = some (v', H') := by
      rw [dBody_noLoop ins_loop_Pair, s_slices_Insert_Pair_eq]
      show s_slices_Insert_Pair guardK condL shareL Try.prog _ _ _ _ H _ = _
      simp (disch := first | with_reducible rfl | assumption | omega | rfl | (simp only [go_sem]; first | done | omega)) only [go_sem, ↓reduceIte, reduceCtorEq, Nat.reduceEqDiff, Nat.reduceAdd, Nat.reduceSub, Nat.reduceMul, Nat.reduceDiv, Nat.reduceMod, Nat.reduceLeDiff, Nat.reduceLT, Nat.reduceBEq, Int.reduceEq, Int.reduceBEq, Int.reduceBNe, Int.reduceLT, Int.reduceLE, Int.reduceAdd, Int.reduceSub, Int.reduceNeg, Int.reduceToNat, Int.reducePow, Nat.reducePow, Int.reduceMul, Int.reduceDiv, ↓s_slices_Insert_Pair, hw, hlen, happ]
    show (match dBody Try.prog hints (fun _ _ _ => none) 1 F.slices_Insert_Pair [v, .int .i64 (l.length : Int), .slice (some ⟨bv, 0, none⟩) 1 2] H with
      | some r => some r
      | none => _) = _
    rw [hbody]
  · have hilt : i < l.length := by omega
    rcases hr with ⟨h, _⟩ | ⟨h, _⟩ | ⟨b, o, c, xs, rfl, hlc, hb, hf, ho, hx⟩
    · subst h; simp at hilt
    · subst h; simp at hilt
    · have hneb : bv ≠ b := fun h => hne (by rw [h]; rfl)
      obtain ⟨v', H', hins, hown, hfr, hbl⟩ := insS_own (P := Try.prog) (E := EPr) (l := l) (el := T.api_Pair) (z := zIns0) (b := b) (o := o) (c := c) (i := i) (bv := bv) (ov := 0) (cv := 2) (m := [a]) rfl rfl hlc hb hf ho hx hilt (by simp) hbv hneb (by kernel_rfl) (show 0 + 1 * 2 ≤ 2 by decide) rfl
        (by rw [show Try.prog.bytesOf T.api_Pair = 32 by kernel_rfl]; simp; omega) (by simp; omega)
      refine ⟨v', H', ?_, hown, hfr.mono fun x _ h => by rw [h]; rfl, hbl.imp id fun h => ⟨_, h, Nat.le_refl _⟩⟩
      refine D_prim hp ?_
      have hlo : slS T.api_Pair 2 (.slice (some ⟨b, o, none⟩) l.length (2 * c + 1)) (some (.int .i64 (i : Int))) none none H = some (.slice (some ⟨b, o + i * 2, none⟩) (l.length - i) (2 * (c - i) + 1)) := sl_lo hf hi hlc
      have hne' : ¬ (i : Int) = (l.length : Int) := by omega
      have hbody : dBody Try.prog hints (fun _ _ _ => none) 1 F.slices_Insert_Pair [.slice (some ⟨b, o, none⟩) l.length (2 * c + 1), .int .i64 (i : Int), .slice (some ⟨bv, 0, none⟩) 1 2] H = none := by
        rw [dBody_noLoop ins_loop_Pair, s_slices_Insert_Pair_eq]
        show s_slices_Insert_Pair guardK condL shareL Try.prog _ _ _ _ H _ = _
        simp (disch := first | with_reducible rfl | assumption | omega | rfl | (simp only [go_sem]; first | done | omega)) only [go_sem, ↓reduceIte, reduceCtorEq, Nat.reduceEqDiff, Nat.reduceAdd, Nat.reduceSub, Nat.reduceMul, Nat.reduceDiv, Nat.reduceMod, Nat.reduceLeDiff, Nat.reduceLT, Nat.reduceBEq, Int.reduceEq, Int.reduceBEq, Int.reduceBNe, Int.reduceLT, Int.reduceLE, Int.reduceAdd, Int.reduceSub, Int.reduceNeg, Int.reduceToNat, Int.reducePow, Nat.reducePow, Int.reduceMul, Int.reduceDiv, ↓s_slices_Insert_Pair, hlo, hne', cap_odd]
      show (match dBody Try.prog hints (fun _ _ _ => none) 1 F.slices_Insert_Pair [.slice (some ⟨b, o, none⟩) l.length (2 * c + 1), .int .i64 (i : Int), .slice (some ⟨bv, 0, none⟩) 1 2] H with
        | some r => some r
        | none => _) = _
      rw [hbody]
      exact hins

/-! ### Delete -/
theorem zrow_Pair : zrow Try.prog T.api_Pair = some [.string (mk []), .string (mk [])] := by kernel_rfl
theorem clear_Pair {b o n c : Nat} {H : AHeap} (hn : n ≠ 0) : xclear Try.prog [T.sl_api_Pair] (.slice (some ⟨b, o, none⟩) n c) H = (setB H b (wrL (H.f b) o (zeros [.string (mk []), .string (mk [])] n))).map fun H' => (.tuple #[], H') := by
  have h : Try.prog.underlying T.sl_api_Pair = some (.slice T.api_Pair) := Try.underlying22
  unfold xclear
  simp only [h, hn, if_false, zrow_Pair, Option.bind_some, stL_b]

theorem q_delete_Pair (l : List Pr) (v : Value) (i : Nat) (H : AHeap) (hr : Own EPr H T.api_Pair v l) (hl : l.length ≤ 1000000000000) (hi : i < l.length) :
    ∃ v' H', CC F.slices_Delete_Pair [v, .int .i64 (i : Int), .int .i64 ((i : Int) + 1)] H = some (v', H') ∧ Own EPr H' T.api_Pair v' (l.take i ++ l.drop (i + 1)) ∧ Fr (OnlyOf v) H H' ∧ blockOf v' = blockOf v := by
  rcases hr with ⟨h, _⟩ | ⟨h, _⟩ | ⟨b, o, c, xs, rfl, hlc, hb, hf, ho, hx⟩
  · subst h; simp at hi
  · subst h; simp at hi
  · have hw : EPr.w = 2 := rfl
    rw [hw] at ho hx
    have hne : ¬ (i : Int) = (i : Int) + 1 := by omega
    have hmul : l.length * 2 ≤ c * 2 := Nat.mul_le_mul_right _ hlc
    have e1 : slS T.api_Pair 2 (.slice (some ⟨b, o, none⟩) l.length (2 * c + 1)) (some (.int .i64 (i : Int))) (some (.int .i64 ((i : Int) + 1))) (some (.int .i64 (l.length : Int))) H = some (.slice (some ⟨b, if l.length = i then o else o + i * 2, none⟩) (i + 1 - i) (2 * (l.length - i))) :=
      sl_three (H := H) (e := T.api_Pair) (sz := 2) (i := i) (j := i + 1) (by omega) hi hlc
    have e2 : slS T.api_Pair 2 (.slice (some ⟨b, o, none⟩) l.length (2 * c + 1)) none (some (.int .i64 (i : Int))) none H = some (.slice (some ⟨b, o, none⟩) i (2 * c + 1)) := sl_hi hf (by omega)
    have e3 : slS T.api_Pair 2 (.slice (some ⟨b, o, none⟩) l.length (2 * c + 1)) (some (.int .i64 ((i : Int) + 1))) none none H = some (.slice (some ⟨b, o + (i + 1) * 2, none⟩) (l.length - (i + 1)) (2 * (c - (i + 1)) + 1)) :=
      sl_lo (H := H) (e := T.api_Pair) (sz := 2) (i := i + 1) hf hi hlc
    -- what is appended
    obtain ⟨ys, hys, e4⟩ : ∃ ys, ys = spl xs (o + i * 2) (EPr.cells (l.drop (i + 1))) ∧ app T.api_Pair 2 32 (.slice (some ⟨b, o, none⟩) i (2 * c + 1)) (srcS 2 (.slice (some ⟨b, o + (i + 1) * 2, none⟩) (l.length - (i + 1)) (2 * (c - (i + 1)) + 1)) H) H =
        some (.slice (some ⟨b, o, none⟩) (l.length - 1) (2 * c + 1), if l.length = i + 1 then H else H.set b (.cells ys T.api_Pair true)) := by
      refine ⟨_, rfl, ?_⟩
      have hsrc : srcS 2 (.slice (some ⟨b, o + (i + 1) * 2, none⟩) (l.length - (i + 1)) (2 * (c - (i + 1)) + 1)) H = some (l.length - (i + 1), EPr.cells (l.drop (i + 1))) := by
        unfold srcS
        by_cases h0 : l.length - (i + 1) = 0
        · rw [List.drop_eq_nil_of_le (by omega)]
          simp only [h0, if_true]
          rfl
        · simp only [h0, if_false, cut_b, hf]
          have hd : (xs.drop (o + (i + 1) * 2)).take ((l.length - (i + 1)) * 2) = EPr.cells (l.drop (i + 1)) := by
            have := EPr.cells_drop l (i + 1)
            rw [hw] at this
            rw [← this, ← hx, List.drop_take, List.drop_drop, Nat.sub_mul]
          rw [cutB_c (by omega), hd]
          rfl
      rw [hsrc]
      by_cases h0 : l.length = i + 1
      · rw [if_pos h0]
        unfold app
        simp only [Option.bind_some, show l.length - (i + 1) = 0 by omega, if_true]
        rw [show l.length - 1 = i by omega]
      · rw [if_neg h0]
        unfold app
        have hlen : (EPr.cells (l.drop (i + 1))).length = (l.length - (i + 1)) * 2 := by rw [EPr.cells_len, List.length_drop, hw]
        simp only [Option.bind_some, show ¬ l.length - (i + 1) = 0 by omega, if_false, show ¬ ((i + (l.length - (i + 1))) * 32 > 140737488355328 ∨ i + (l.length - (i + 1)) > 140737488355328) by omega, show i + (l.length - (i + 1)) ≤ (2 * c + 1) / 2 by omega, if_true, stL_b, hf]
        rw [wrL_c (by rw [hlen]; omega) (EPr.cells_one _), setB_s]
        simp only [Option.map_some]
        rw [show i + (l.length - (i + 1)) = l.length - 1 by omega]
    have hysl : ys.length = xs.length := by rw [hys, spl_length]
    generalize hH1 : (if l.length = i + 1 then H else H.set b (.cells ys T.api_Pair true)) = H1 at e4
    obtain ⟨zs, hzs, hzl, f1⟩ : ∃ zs, (zs = ys) ∧ zs.length = xs.length ∧ H1.f b = .cells zs T.api_Pair true := by
      rw [← hH1]
      by_cases h0 : l.length = i + 1
      · rw [if_pos h0]
        refine ⟨xs, ?_, rfl, hf⟩
        rw [hys, List.drop_eq_nil_of_le (by omega)]
        rfl
      · rw [if_neg h0]
        exact ⟨ys, rfl, hysl, set_f_eq⟩
    subst hzs
    have fr1 : Fr (OnlyOf (.slice (some ⟨b, o, none⟩) l.length (2 * c + 1))) H H1 := by
      rw [← hH1]
      split
      · exact Fr.refl _
      · exact Fr.set (Fr.refl _) _ _ fun _ => rfl
    have e5 : slS T.api_Pair 2 (.slice (some ⟨b, o, none⟩) (l.length - 1) (2 * c + 1)) (some (.int .i64 ((l.length - 1 : Nat) : Int))) (some (.int .i64 (l.length : Int))) none H1 = some (.slice (some ⟨b, o + (l.length - 1) * 2, none⟩) (l.length - (l.length - 1)) (2 * (c - (l.length - 1)) + 1)) := sl_lohi f1 (by omega) hlc
    have e6 : l.length - (l.length - 1) = 1 := by omega
    have hn1 : b < H1.n := Nat.lt_of_lt_of_le hb fr1.n
    refine ⟨.slice (some ⟨b, o, none⟩) (l.length - 1) (2 * c + 1), H1.set b (.cells (spl zs (o + (l.length - 1) * 2) [.string (mk []), .string (mk [])]) T.api_Pair true), ?_, ?_, Fr.set fr1 _ _ fun _ => rfl, rfl⟩
    · refine (d_slices_Delete_Pair _ _ _ H (r := (.slice (some ⟨b, o, none⟩) (l.length - 1) (2 * c + 1), _)) ?_).trans (congrArg some (tidy_mem rfl))
      simp (disch := first | with_reducible rfl | assumption | omega | rfl | (simp only [go_sem]; first | done | omega)) only [go_sem, ↓reduceIte, reduceCtorEq, Nat.reduceEqDiff, Nat.reduceAdd, Nat.reduceSub, Nat.reduceMul, Nat.reduceDiv, Nat.reduceMod, Nat.reduceLeDiff, Nat.reduceLT, Nat.reduceBEq, Int.reduceEq, Int.reduceBEq, Int.reduceBNe, Int.reduceLT, Int.reduceLE, Int.reduceAdd, Int.reduceSub, Int.reduceNeg, Int.reduceToNat, Int.reducePow, Nat.reducePow, Int.reduceMul, Int.reduceDiv, ↓s_slices_Delete_Pair, e1, hne, e2, e3, e4]
      rw [e5, e6]
      simp (disch := first | with_reducible rfl | assumption | omega | rfl | (simp only [go_sem]; first | done | omega)) only [go_sem, ↓reduceIte, reduceCtorEq, Nat.reduceEqDiff, Nat.reduceAdd, Nat.reduceSub, Nat.reduceMul, Nat.reduceDiv, Nat.reduceMod, Nat.reduceLeDiff, Nat.reduceLT, Nat.reduceBEq, Int.reduceEq, Int.reduceBEq, Int.reduceBNe, Int.reduceLT, Int.reduceLE, Int.reduceAdd, Int.reduceSub, Int.reduceNeg, Int.reduceToNat, Int.reducePow, Nat.reducePow, Int.reduceMul, Int.reduceDiv, clear_Pair, f1]
    · have hlen2 : (l.take i ++ l.drop (i + 1)).length = l.length - 1 := by simp; omega
      refine .inr (.inr ⟨b, o, c, _, by rw [hlen2], by rw [hlen2]; omega, by simpa using hn1, set_f_eq, by rw [spl_length, hzl, hw, ho], ?_⟩)
      rw [hys]
      have := del_cells (E := EPr) (xs := xs) (z := [.string (mk []), .string (mk [])]) (o := o) (i := i) rfl hi (by rw [hw]; omega) (by rw [hw]; exact hx)
      exact this



end Go.Proofs.Ytlagijfkkpbbnaa

/-
  The plain map: where a key is, the check of a key and values.
  Conditions: none. By an AI agent.
-/
set_option maxRecDepth 10000
set_option linter.unusedSimpArgs false
set_option linter.unusedVariables false
namespace Go.Proofs.Ytlagijfkkpbbnaa
open Go Eng

theorem q_place_1 (a : Pr) (key : ByteArray) (H : AHeap) : CC F.model_Model_place_1 [.agg #[.string a.key, .string a.value], .string key] H = some (.int .i64 (cmpS a.key key), H) := by
  apply pure_of _ (d_model_Model_place_1 _ _ H) rfl
  rotate_left 2
  · simp (disch := first | with_reducible rfl | assumption | omega | rfl | (simp only [go_sem]; first | done | omega)) only [go_sem, ↓reduceIte, reduceCtorEq, Nat.reduceEqDiff, Nat.reduceAdd, Nat.reduceSub, Nat.reduceMul, Nat.reduceDiv, Nat.reduceMod, Nat.reduceLeDiff, Nat.reduceLT, Nat.reduceBEq, Int.reduceEq, Int.reduceBEq, Int.reduceBNe, Int.reduceLT, Int.reduceLE, Int.reduceAdd, Int.reduceSub, Int.reduceNeg, Int.reduceToNat, Int.reducePow, Nat.reducePow, Int.reduceMul, Int.reduceDiv, ↓s_model_Model_place_1, e_KCompare]
    rfl
  · (repeat (first | exact Fr.refl _ | refine Fr.push ?_ _ | refine Fr.set ?_ _ _ (by intro h; first | omega | (simp only [go_sem] at h; omega))))
@[go_sem, go_sem ↓] theorem e_place_1 (a : Pr) (key : ByteArray) (H : AHeap) {k : Value → AHeap → Res} : enterK CC F.model_Model_place_1 [.agg #[.string a.key, .string a.value], .string key] H k = k (.int .i64 (cmpS a.key key)) H := enterK_eq (q_place_1 a key H)

/-- p is where a key is, or would be. -/
def PosP (l : List Pr) (key : ByteArray) (p : Nat) : Prop :=
  p ≤ l.length ∧ (∀ (i : Nat) (h : i < l.length), i < p → cmpS l[i].key key < 0) ∧ (∀ (i : Nat) (h : i < l.length), p ≤ i → ¬ cmpS l[i].key key < 0)

/-- Is the key there? -/
def isP (l : List Pr) (key : ByteArray) (p : Nat) : Bool := match l[p]? with | some a => decide (cmpS a.key key = 0) | none => false

theorem l_bsP (l : List Pr) (v : Value) (key : ByteArray) (H : AHeap) (hr : Rd EPr H v l) (hl : l.length < 1152921504606846976)
    (p : Nat) (hp1 : ∀ (i : Nat) (h : i < l.length), i < p → cmpS l[i].key key < 0) (hp2 : ∀ (i : Nat) (h : i < l.length), p ≤ i → ¬ cmpS l[i].key key < 0) (K : K) : ∀ (d i j : Nat), j - i = d → i ≤ p → p ≤ j → j ≤ l.length →
    l_slices_BinarySearchFunc_string_0 v (.string key) (.func (.func F.model_Model_place_1) #[] #[]) (.int .i64 l.length) (.int .i64 i) (.int .i64 j) H K
      = K (.exit 0) [(17, .bool false), (16, .int .i64 p), (15, .int .i64 p), (0, v), (1, .string key), (2, .func (.func F.model_Model_place_1) #[] #[]), (8, .int .i64 l.length), (9, .int .i64 p), (10, .int .i64 p)] H := by
  intro d
  induction d using Nat.strongRecOn with
  | ind d ih =>
    intro i j hd hi hj hn
    by_cases hlt : i < j
    · have hlt' : (i : Int) < (j : Int) := by omega
      have hm : ((i : Int) + (j : Int)) / 2 = (((i + j) / 2 : Nat) : Int) := by omega
      generalize hh : (i + j) / 2 = m at hm
      have hm1 : i ≤ m := by omega
      have hm2 : m < j := by omega
      have hml : m < l.length := by omega
      obtain ⟨b, o, hix, hb, hc, _⟩ := hr.ix (q := .i64) hml
      have hix : ixS 2 v (.int .i64 m) = some (.pointer (some ⟨b, o, none⟩)) := hix
      have hc : cutB (H.f b) o 2 = some [.string l[m].key, .string l[m].value] := hc
      rw [r_slices_BinarySearchFunc_string_0]
      by_cases hp : m < p
      · have hcmp : decide (cmpS l[m].key key < 0) = true := decide_eq_true (hp1 m hml hp)
        have ih := ih (j - (m + 1)) (by omega) (m + 1) j rfl (by omega) hj hn
        rw [Int.natCast_add] at ih
        simp (disch := first | with_reducible rfl | assumption | omega | rfl | (simp only [go_sem]; first | done | omega)) only [go_sem, ↓reduceIte, reduceCtorEq, Nat.reduceEqDiff, Nat.reduceAdd, Nat.reduceSub, Nat.reduceMul, Nat.reduceDiv, Nat.reduceMod, Nat.reduceLeDiff, Nat.reduceLT, Nat.reduceBEq, Int.reduceEq, Int.reduceBEq, Int.reduceBNe, Int.reduceLT, Int.reduceLE, Int.reduceAdd, Int.reduceSub, Int.reduceNeg, Int.reduceToNat, Int.reducePow, Nat.reducePow, Int.reduceMul, Int.reduceDiv, ↓s_slices_BinarySearchFunc_string_b0, hlt', hm, hix, hc, c_model_Model_place_1, e_place_1, hcmp]
        exact ih
      · have hcmp : decide (cmpS l[m].key key < 0) = false := decide_eq_false (hp2 m hml (by omega))
        have ih := ih (m - i) (by omega) i m rfl hi (by omega) (by omega)
        simp (disch := first | with_reducible rfl | assumption | omega | rfl | (simp only [go_sem]; first | done | omega)) only [go_sem, ↓reduceIte, reduceCtorEq, Nat.reduceEqDiff, Nat.reduceAdd, Nat.reduceSub, Nat.reduceMul, Nat.reduceDiv, Nat.reduceMod, Nat.reduceLeDiff, Nat.reduceLT, Nat.reduceBEq, Int.reduceEq, Int.reduceBEq, Int.reduceBNe, Int.reduceLT, Int.reduceLE, Int.reduceAdd, Int.reduceSub, Int.reduceNeg, Int.reduceToNat, Int.reducePow, Nat.reducePow, Int.reduceMul, Int.reduceDiv, ↓s_slices_BinarySearchFunc_string_b0, hlt', hm, hix, hc, c_model_Model_place_1, e_place_1, hcmp]
        exact ih
    · have hip : i = p := by omega
      have hjp : j = p := by omega
      subst hip
      subst hjp
      have hlt' : ¬ (j : Int) < (j : Int) := by omega
      rw [r_slices_BinarySearchFunc_string_0]
      simp (disch := first | with_reducible rfl | assumption | omega | rfl | (simp only [go_sem]; first | done | omega)) only [go_sem, ↓reduceIte, reduceCtorEq, Nat.reduceEqDiff, Nat.reduceAdd, Nat.reduceSub, Nat.reduceMul, Nat.reduceDiv, Nat.reduceMod, Nat.reduceLeDiff, Nat.reduceLT, Nat.reduceBEq, Int.reduceEq, Int.reduceBEq, Int.reduceBNe, Int.reduceLT, Int.reduceLE, Int.reduceAdd, Int.reduceSub, Int.reduceNeg, Int.reduceToNat, Int.reducePow, Nat.reducePow, Int.reduceMul, Int.reduceDiv, ↓s_slices_BinarySearchFunc_string_b0, hlt']

theorem q_bsP (l : List Pr) (v : Value) (key : ByteArray) (H : AHeap) (hr : Rd EPr H v l) (hl : l.length < 1152921504606846976) (p : Nat) (hp : PosP l key p) :
    CC F.slices_BinarySearchFunc_string [v, .string key, .func (.func F.model_Model_place_1) #[] #[]] H = some (.tuple #[.int .i64 p, .bool (isP l key p)], H) := by
  obtain ⟨hpl, hp1, hp2⟩ := hp
  have hlen := hr.lenS
  have hloop := l_bsP l v key H hr hl p hp1 hp2
  have hz : Value.int IntKind.i64 0 = Value.int IntKind.i64 ((0 : Nat) : Int) := rfl
  by_cases hlt : p < l.length
  · obtain ⟨b, o, hix, hb, hc, _⟩ := hr.ix (q := .i64) hlt
    have hix : ixS 2 v (.int .i64 p) = some (.pointer (some ⟨b, o, none⟩)) := hix
    have hc : cutB (H.f b) o 2 = some [.string l[p].key, .string l[p].value] := hc
    have hlt' : (p : Int) < (l.length : Int) := by omega
    have his : isP l key p = decide (cmpS l[p].key key = 0) := by unfold isP; rw [List.getElem?_eq_getElem hlt]
    rw [his]
    apply pure_of _ (d_slices_BinarySearchFunc_string _ _ _ H) rfl
    rotate_left 2
    · simp (disch := first | with_reducible rfl | assumption | omega | rfl | (simp only [go_sem]; first | done | omega)) only [go_sem, ↓reduceIte, reduceCtorEq, Nat.reduceEqDiff, Nat.reduceAdd, Nat.reduceSub, Nat.reduceMul, Nat.reduceDiv, Nat.reduceMod, Nat.reduceLeDiff, Nat.reduceLT, Nat.reduceBEq, Int.reduceEq, Int.reduceBEq, Int.reduceBNe, Int.reduceLT, Int.reduceLE, Int.reduceAdd, Int.reduceSub, Int.reduceNeg, Int.reduceToNat, Int.reducePow, Nat.reducePow, Int.reduceMul, Int.reduceDiv, ↓s_slices_BinarySearchFunc_string, hlen]
      rw [hz, hloop _ (l.length - 0) 0 l.length rfl (by omega) hpl (by omega)]
      simp (disch := first | with_reducible rfl | assumption | omega | rfl | (simp only [go_sem]; first | done | omega)) only [go_sem, ↓reduceIte, reduceCtorEq, Nat.reduceEqDiff, Nat.reduceAdd, Nat.reduceSub, Nat.reduceMul, Nat.reduceDiv, Nat.reduceMod, Nat.reduceLeDiff, Nat.reduceLT, Nat.reduceBEq, Int.reduceEq, Int.reduceBEq, Int.reduceBNe, Int.reduceLT, Int.reduceLE, Int.reduceAdd, Int.reduceSub, Int.reduceNeg, Int.reduceToNat, Int.reducePow, Nat.reducePow, Int.reduceMul, Int.reduceDiv, hlt', hix, hc, c_model_Model_place_1, e_place_1]
      rfl
    · (repeat (first | exact Fr.refl _ | refine Fr.push ?_ _ | refine Fr.set ?_ _ _ (by intro h; first | omega | (simp only [go_sem] at h; omega))))
  · have hlt' : ¬ (p : Int) < (l.length : Int) := by omega
    have his : isP l key p = false := by unfold isP; rw [List.getElem?_eq_none (by omega)]
    rw [his]
    apply pure_of _ (d_slices_BinarySearchFunc_string _ _ _ H) rfl
    rotate_left 2
    · simp (disch := first | with_reducible rfl | assumption | omega | rfl | (simp only [go_sem]; first | done | omega)) only [go_sem, ↓reduceIte, reduceCtorEq, Nat.reduceEqDiff, Nat.reduceAdd, Nat.reduceSub, Nat.reduceMul, Nat.reduceDiv, Nat.reduceMod, Nat.reduceLeDiff, Nat.reduceLT, Nat.reduceBEq, Int.reduceEq, Int.reduceBEq, Int.reduceBNe, Int.reduceLT, Int.reduceLE, Int.reduceAdd, Int.reduceSub, Int.reduceNeg, Int.reduceToNat, Int.reducePow, Nat.reducePow, Int.reduceMul, Int.reduceDiv, ↓s_slices_BinarySearchFunc_string, hlen]
      rw [hz, hloop _ (l.length - 0) 0 l.length rfl (by omega) hpl (by omega)]
      simp (disch := first | with_reducible rfl | assumption | omega | rfl | (simp only [go_sem]; first | done | omega)) only [go_sem, ↓reduceIte, reduceCtorEq, Nat.reduceEqDiff, Nat.reduceAdd, Nat.reduceSub, Nat.reduceMul, Nat.reduceDiv, Nat.reduceMod, Nat.reduceLeDiff, Nat.reduceLT, Nat.reduceBEq, Int.reduceEq, Int.reduceBEq, Int.reduceBNe, Int.reduceLT, Int.reduceLE, Int.reduceAdd, Int.reduceSub, Int.reduceNeg, Int.reduceToNat, Int.reducePow, Nat.reducePow, Int.reduceMul, Int.reduceDiv, hlt']
      rfl
    · (repeat (first | exact Fr.refl _ | refine Fr.push ?_ _ | refine Fr.set ?_ _ _ (by intro h; first | omega | (simp only [go_sem] at h; omega))))

/-! ### The check -/
theorem q_check_1 (a : ByteArray) (H : AHeap) : CC F.model_check_1 [.string a] H = some (.bool (decide (40 < (bl a).length)), H) := by
  have e : decide ((40 : Int) < ((bl a).length : Int)) = decide (40 < (bl a).length) := decide_eq_decide.2 (by omega)
  apply pure_of _ (d_model_check_1 _ H) rfl
  rotate_left 2
  · simp (disch := first | with_reducible rfl | assumption | omega | rfl | (simp only [go_sem]; first | done | omega)) only [go_sem, ↓reduceIte, reduceCtorEq, Nat.reduceEqDiff, Nat.reduceAdd, Nat.reduceSub, Nat.reduceMul, Nat.reduceDiv, Nat.reduceMod, Nat.reduceLeDiff, Nat.reduceLT, Nat.reduceBEq, Int.reduceEq, Int.reduceBEq, Int.reduceBNe, Int.reduceLT, Int.reduceLE, Int.reduceAdd, Int.reduceSub, Int.reduceNeg, Int.reduceToNat, Int.reducePow, Nat.reducePow, Int.reduceMul, Int.reduceDiv, ↓s_model_check_1, e]
    rfl
  · (repeat (first | exact Fr.refl _ | refine Fr.push ?_ _ | refine Fr.set ?_ _ _ (by intro h; first | omega | (simp only [go_sem] at h; omega))))
@[go_sem, go_sem ↓] theorem e_check_1 (a : ByteArray) (H : AHeap) {k : Value → AHeap → Res} : enterK CC F.model_check_1 [.string a] H k = k (.bool (decide (40 < (bl a).length))) H := enterK_eq (q_check_1 a H)

def idxLong : List ByteArray → Nat → Int
  | [], _ => -1
  | a :: l, i => if 40 < (bl a).length then i else idxLong l (i + 1)

theorem l_indexS (l : List ByteArray) (v : Value) (H : AHeap) (hr : Rd EStr H v l) (hl : l.length < 4611686018427387904) (K : K) : ∀ (m : List ByteArray) (i : Nat), l.drop i = m → i ≤ l.length →
    l_slices_IndexFunc_string_0 v (.func (.func F.model_check_1) #[] #[]) (.int .i64 l.length) (.int .i64 i) H (blkK [] 0 (seqK (fun _ h2 => K .ret [(4, .int .i64 (-1))] h2) K)) = K .ret [(4, .int .i64 (idxLong m i))] H
  | [], i, hm, hi => by
    have h : l.length ≤ i := List.drop_eq_nil_iff.1 hm
    have hlt : ¬ (i : Int) < (l.length : Int) := by omega
    rw [r_slices_IndexFunc_string_0]
    simp (disch := first | with_reducible rfl | assumption | omega | rfl | (simp only [go_sem]; first | done | omega)) only [go_sem, ↓reduceIte, reduceCtorEq, Nat.reduceEqDiff, Nat.reduceAdd, Nat.reduceSub, Nat.reduceMul, Nat.reduceDiv, Nat.reduceMod, Nat.reduceLeDiff, Nat.reduceLT, Nat.reduceBEq, Int.reduceEq, Int.reduceBEq, Int.reduceBNe, Int.reduceLT, Int.reduceLE, Int.reduceAdd, Int.reduceSub, Int.reduceNeg, Int.reduceToNat, Int.reducePow, Nat.reducePow, Int.reduceMul, Int.reduceDiv, ↓s_slices_IndexFunc_string_b0, hlt, idxLong]
  | a :: m, i, hm, hi => by
    have h : i < l.length := by
      rcases Nat.lt_or_ge i l.length with h | h
      · exact h
      · rw [List.drop_eq_nil_of_le h] at hm; cases hm
    have hlt : (i : Int) < (l.length : Int) := by omega
    have ha : l[i] = a := by rw [List.drop_eq_getElem_cons h] at hm; exact (List.cons.inj hm).1
    have hm' : l.drop (i + 1) = m := by rw [List.drop_eq_getElem_cons h] at hm; exact (List.cons.inj hm).2
    have ih := l_indexS l v H hr hl K m (i + 1) hm' h
    obtain ⟨b, o, hix, hb, hc, _⟩ := hr.ix (q := .i64) h
    rw [ha] at hc
    have hix : ixS 1 v (.int .i64 i) = some (.pointer (some ⟨b, o, none⟩)) := hix
    have hc : cellB (H.f b) o = some (.string a) := cutB_cell hc (i := 0) (by decide)
    rw [Int.natCast_add] at ih
    rw [r_slices_IndexFunc_string_0]
    by_cases he : 40 < (bl a).length
    · have hd : decide (40 < (bl a).length) = true := decide_eq_true he
      rw [idxLong, if_pos he]
      simp (disch := first | with_reducible rfl | assumption | omega | rfl | (simp only [go_sem]; first | done | omega)) only [go_sem, ↓reduceIte, reduceCtorEq, Nat.reduceEqDiff, Nat.reduceAdd, Nat.reduceSub, Nat.reduceMul, Nat.reduceDiv, Nat.reduceMod, Nat.reduceLeDiff, Nat.reduceLT, Nat.reduceBEq, Int.reduceEq, Int.reduceBEq, Int.reduceBNe, Int.reduceLT, Int.reduceLE, Int.reduceAdd, Int.reduceSub, Int.reduceNeg, Int.reduceToNat, Int.reducePow, Nat.reducePow, Int.reduceMul, Int.reduceDiv, ↓s_slices_IndexFunc_string_b0, hlt, hix, hc, c_model_check_1, e_check_1, hd]
    · have hd : decide (40 < (bl a).length) = false := decide_eq_false he
      rw [idxLong, if_neg he]
      simp (disch := first | with_reducible rfl | assumption | omega | rfl | (simp only [go_sem]; first | done | omega)) only [go_sem, ↓reduceIte, reduceCtorEq, Nat.reduceEqDiff, Nat.reduceAdd, Nat.reduceSub, Nat.reduceMul, Nat.reduceDiv, Nat.reduceMod, Nat.reduceLeDiff, Nat.reduceLT, Nat.reduceBEq, Int.reduceEq, Int.reduceBEq, Int.reduceBNe, Int.reduceLT, Int.reduceLE, Int.reduceAdd, Int.reduceSub, Int.reduceNeg, Int.reduceToNat, Int.reducePow, Nat.reducePow, Int.reduceMul, Int.reduceDiv, ↓s_slices_IndexFunc_string_b0, hlt, hix, hc, c_model_check_1, e_check_1, hd]
      exact ih

theorem idxLong_iff : ∀ (l : List ByteArray) (i : Nat), (0 ≤ idxLong l i) = (∃ a, a ∈ l ∧ 40 < (bl a).length)
  | [], i => by simp [idxLong]
  | a :: l, i => by
    rw [idxLong]
    by_cases h : 40 < (bl a).length
    · rw [if_pos h]; simp [h]
    · rw [if_neg h, idxLong_iff l (i + 1)]; simp [h]

/-- The error of a key and values. -/
def chk (key : ByteArray) (vs : List ByteArray) : Int :=
  if bl key = [] then 2 else if 24 < (bl key).length ∨ (vs.any fun a => decide (40 < (bl a).length)) = true then 5 else 0

theorem q_contains (l : List ByteArray) (v : Value) (H : AHeap) (hr : Rd EStr H v l) (hl : l.length < 4611686018427387904) :
    CC F.slices_ContainsFunc_string [v, .func (.func F.model_check_1) #[] #[]] H = some (.bool (l.any fun a => decide (40 < (bl a).length)), H) := by
  have hlen := hr.lenS
  have hix : CC F.slices_IndexFunc_string [v, .func (.func F.model_check_1) #[] #[]] H = some (.int .i64 (idxLong l 0), H) := by
    apply pure_of _ (d_slices_IndexFunc_string _ _ H) rfl
    rotate_left 2
    · simp (disch := first | with_reducible rfl | assumption | omega | rfl | (simp only [go_sem]; first | done | omega)) only [go_sem, ↓reduceIte, reduceCtorEq, Nat.reduceEqDiff, Nat.reduceAdd, Nat.reduceSub, Nat.reduceMul, Nat.reduceDiv, Nat.reduceMod, Nat.reduceLeDiff, Nat.reduceLT, Nat.reduceBEq, Int.reduceEq, Int.reduceBEq, Int.reduceBNe, Int.reduceLT, Int.reduceLE, Int.reduceAdd, Int.reduceSub, Int.reduceNeg, Int.reduceToNat, Int.reducePow, Nat.reducePow, Int.reduceMul, Int.reduceDiv, ↓s_slices_IndexFunc_string, hlen]
      exact l_indexS l v H hr hl (endK Try.prog [.tmp 4]) l 0 (by simp) (by omega)
    · (repeat (first | exact Fr.refl _ | refine Fr.push ?_ _ | refine Fr.set ?_ _ _ (by intro h; first | omega | (simp only [go_sem] at h; omega))))
  have e : decide (0 ≤ idxLong l 0) = l.any fun a => decide (40 < (bl a).length) := by
    rw [Bool.eq_iff_iff, decide_eq_true_iff, idxLong_iff, List.any_eq_true]
    simp
  apply pure_of _ (d_slices_ContainsFunc_string _ _ H) rfl
  rotate_left 2
  · simp (disch := first | with_reducible rfl | assumption | omega | rfl | (simp only [go_sem]; first | done | omega)) only [go_sem, ↓reduceIte, reduceCtorEq, Nat.reduceEqDiff, Nat.reduceAdd, Nat.reduceSub, Nat.reduceMul, Nat.reduceDiv, Nat.reduceMod, Nat.reduceLeDiff, Nat.reduceLT, Nat.reduceBEq, Int.reduceEq, Int.reduceBEq, Int.reduceBNe, Int.reduceLT, Int.reduceLE, Int.reduceAdd, Int.reduceSub, Int.reduceNeg, Int.reduceToNat, Int.reducePow, Nat.reducePow, Int.reduceMul, Int.reduceDiv, ↓s_slices_ContainsFunc_string, enterK_eq hix, e]
    rfl
  · (repeat (first | exact Fr.refl _ | refine Fr.push ?_ _ | refine Fr.set ?_ _ _ (by intro h; first | omega | (simp only [go_sem] at h; omega))))

theorem q_check (key : ByteArray) (l : List ByteArray) (v : Value) (H : AHeap) (hr : Rd EStr H v l) (hl : l.length < 4611686018427387904) :
    CC F.model_check [.string key, v] H = some (.int .i64 (chk key l), H) := by
  have hcon := q_contains l v H hr hl
  unfold chk
  by_cases h1 : bl key = []
  · have hd : decide (bl key = []) = true := decide_eq_true h1
    rw [if_pos h1]
    apply pure_of _ (d_model_check _ _ H) rfl
    rotate_left 2
    · simp (disch := first | with_reducible rfl | assumption | omega | rfl | (simp only [go_sem]; first | done | omega)) only [go_sem, ↓reduceIte, reduceCtorEq, Nat.reduceEqDiff, Nat.reduceAdd, Nat.reduceSub, Nat.reduceMul, Nat.reduceDiv, Nat.reduceMod, Nat.reduceLeDiff, Nat.reduceLT, Nat.reduceBEq, Int.reduceEq, Int.reduceBEq, Int.reduceBNe, Int.reduceLT, Int.reduceLE, Int.reduceAdd, Int.reduceSub, Int.reduceNeg, Int.reduceToNat, Int.reducePow, Nat.reducePow, Int.reduceMul, Int.reduceDiv, ↓s_model_check, hd]
      rfl
    · (repeat (first | exact Fr.refl _ | refine Fr.push ?_ _ | refine Fr.set ?_ _ _ (by intro h; first | omega | (simp only [go_sem] at h; omega))))
  · have hd : decide (bl key = []) = false := decide_eq_false h1
    rw [if_neg h1]
    by_cases h2 : 24 < (bl key).length
    · have hd2 : decide ((24 : Int) < ((bl key).length : Int)) = true := decide_eq_true (by omega)
      rw [if_pos (.inl h2)]
      apply pure_of _ (d_model_check _ _ H) rfl
      rotate_left 2
      · simp (disch := first | with_reducible rfl | assumption | omega | rfl | (simp only [go_sem]; first | done | omega)) only [go_sem, ↓reduceIte, reduceCtorEq, Nat.reduceEqDiff, Nat.reduceAdd, Nat.reduceSub, Nat.reduceMul, Nat.reduceDiv, Nat.reduceMod, Nat.reduceLeDiff, Nat.reduceLT, Nat.reduceBEq, Int.reduceEq, Int.reduceBEq, Int.reduceBNe, Int.reduceLT, Int.reduceLE, Int.reduceAdd, Int.reduceSub, Int.reduceNeg, Int.reduceToNat, Int.reducePow, Nat.reducePow, Int.reduceMul, Int.reduceDiv, ↓s_model_check, hd, hd2]
        rfl
      · (repeat (first | exact Fr.refl _ | refine Fr.push ?_ _ | refine Fr.set ?_ _ _ (by intro h; first | omega | (simp only [go_sem] at h; omega))))
    · have hd2 : decide ((24 : Int) < ((bl key).length : Int)) = false := decide_eq_false (by omega)
      cases hany : l.any fun a => decide (40 < (bl a).length) with
      | true =>
        rw [hany] at hcon
        rw [if_pos (.inr rfl)]
        apply pure_of _ (d_model_check _ _ H) rfl
        rotate_left 2
        · simp (disch := first | with_reducible rfl | assumption | omega | rfl | (simp only [go_sem]; first | done | omega)) only [go_sem, ↓reduceIte, reduceCtorEq, Nat.reduceEqDiff, Nat.reduceAdd, Nat.reduceSub, Nat.reduceMul, Nat.reduceDiv, Nat.reduceMod, Nat.reduceLeDiff, Nat.reduceLT, Nat.reduceBEq, Int.reduceEq, Int.reduceBEq, Int.reduceBNe, Int.reduceLT, Int.reduceLE, Int.reduceAdd, Int.reduceSub, Int.reduceNeg, Int.reduceToNat, Int.reducePow, Nat.reducePow, Int.reduceMul, Int.reduceDiv, ↓s_model_check, hd, hd2, enterK_eq hcon]
          rfl
        · (repeat (first | exact Fr.refl _ | refine Fr.push ?_ _ | refine Fr.set ?_ _ _ (by intro h; first | omega | (simp only [go_sem] at h; omega))))
      | false =>
        rw [hany] at hcon
        rw [if_neg (by simp; omega)]
        apply pure_of _ (d_model_check _ _ H) rfl
        rotate_left 2
        · simp (disch := first | with_reducible rfl | assumption | omega | rfl | (simp only [go_sem]; first | done | omega)) only [go_sem, ↓reduceIte, reduceCtorEq, Nat.reduceEqDiff, Nat.reduceAdd, Nat.reduceSub, Nat.reduceMul, Nat.reduceDiv, Nat.reduceMod, Nat.reduceLeDiff, Nat.reduceLT, Nat.reduceBEq, Int.reduceEq, Int.reduceBEq, Int.reduceBNe, Int.reduceLT, Int.reduceLE, Int.reduceAdd, Int.reduceSub, Int.reduceNeg, Int.reduceToNat, Int.reducePow, Nat.reducePow, Int.reduceMul, Int.reduceDiv, ↓s_model_check, hd, hd2, enterK_eq hcon]
          rfl
        · (repeat (first | exact Fr.refl _ | refine Fr.push ?_ _ | refine Fr.set ?_ _ _ (by intro h; first | omega | (simp only [go_sem] at h; omega))))

/-! ### The map -/
def MdlT (t : TypeId) (H : AHeap) (b : Nat) (l : List Pr) : Prop := ∃ v, H.f b = .cells [v] t true ∧ b < H.n ∧ Own EPr H T.api_Pair v l ∧ blockOf v ≠ some b
abbrev Mdl := MdlT T.model_Model

theorem MdlT.keep {t : TypeId} {H H' : AHeap} {S : Nat → Prop} {b : Nat} {l : List Pr} (r : MdlT t H b l) (h : Fr S H H') (hb : ¬ S b) (hv : ∀ v, H.f b = .cells [v] t true → Off S v) : MdlT t H' b l := by
  obtain ⟨v, h1, h2, h3, h4⟩ := r
  exact ⟨v, by rw [h.f h2 hb]; exact h1, Nat.lt_of_lt_of_le h2 h.n, h3.keep h (hv v h1), h4⟩
theorem MdlT.still {t : TypeId} {H H' : AHeap} {b : Nat} {l : List Pr} (r : MdlT t H b l) (h : Still H H') : MdlT t H' b l := r.keep h (fun h => h) fun _ _ _ _ h => h

def Ok (H : AHeap) : Prop := ∀ b, H.ver b < H.clk
theorem Ok.fr {S : Nat → Prop} {H H' : AHeap} (h : Ok H) (f : Fr S H H') : Ok H' := f.ok h
theorem H0_ok : Ok H0 := fun _ => Nat.zero_lt_one

/-- The blocks of a map. -/
def MBT (t : TypeId) (H : AHeap) (b : Nat) : Nat → Prop := fun c => c = b ∨ ∃ v, H.f b = .cells [v] t true ∧ blockOf v = some c
abbrev MB := MBT T.model_Model

theorem q_place (b : Nat) (l : List Pr) (key : ByteArray) (H : AHeap) (r : Mdl H b l) (hl : l.length < 1152921504606846976) (p : Nat) (hp : PosP l key p) :
    CC F.model_Model_place [.pointer (some ⟨b, 0, none⟩), .string key] H = some (.tuple #[.int .i64 p, .bool (isP l key p)], H) := by
  obtain ⟨v, h1, h2, h3, h4⟩ := r
  have hbs := q_bsP l v key H h3.rd hl p hp
  apply pure_of _ (d_model_Model_place _ _ H) rfl
  rotate_left 2
  · simp (disch := first | with_reducible rfl | assumption | omega | rfl | (simp only [go_sem]; first | done | omega)) only [go_sem, ↓reduceIte, reduceCtorEq, Nat.reduceEqDiff, Nat.reduceAdd, Nat.reduceSub, Nat.reduceMul, Nat.reduceDiv, Nat.reduceMod, Nat.reduceLeDiff, Nat.reduceLT, Nat.reduceBEq, Int.reduceEq, Int.reduceBEq, Int.reduceBNe, Int.reduceLT, Int.reduceLE, Int.reduceAdd, Int.reduceSub, Int.reduceNeg, Int.reduceToNat, Int.reducePow, Nat.reducePow, Int.reduceMul, Int.reduceDiv, ↓s_model_Model_place, h1, enterK_eq hbs]
    rfl
  · (repeat (first | exact Fr.refl _ | refine Fr.push ?_ _ | refine Fr.set ?_ _ _ (by intro h; first | omega | (simp only [go_sem] at h; omega))))

theorem q_at_bad (b : Nat) (key : ByteArray) (vs : List ByteArray) (v : Value) (H : AHeap) (hv : Rd EStr H v vs) (hvl : vs.length < 4611686018427387904) (hc : chk key vs ≠ 0) :
    CC F.model_Model_at [.pointer (some ⟨b, 0, none⟩), .string key, v] H = some (.tuple #[.int .i64 0, .bool false, .int .i64 (chk key vs)], H) := by
  have hck := q_check key vs v H hv hvl
  generalize chk key vs = e at hck hc
  apply pure_of _ (d_model_Model_at _ _ _ H) rfl
  rotate_left 2
  · simp (disch := first | with_reducible rfl | assumption | omega | rfl | (simp only [go_sem]; first | done | omega)) only [go_sem, ↓reduceIte, reduceCtorEq, Nat.reduceEqDiff, Nat.reduceAdd, Nat.reduceSub, Nat.reduceMul, Nat.reduceDiv, Nat.reduceMod, Nat.reduceLeDiff, Nat.reduceLT, Nat.reduceBEq, Int.reduceEq, Int.reduceBEq, Int.reduceBNe, Int.reduceLT, Int.reduceLE, Int.reduceAdd, Int.reduceSub, Int.reduceNeg, Int.reduceToNat, Int.reducePow, Nat.reducePow, Int.reduceMul, Int.reduceDiv, ↓s_model_Model_at, mp_some, enterK_eq hck, hc]
    rfl
  · (repeat (first | exact Fr.refl _ | refine Fr.push ?_ _ | refine Fr.set ?_ _ _ (by intro h; first | omega | (simp only [go_sem] at h; omega))))

theorem q_at (b : Nat) (l : List Pr) (key : ByteArray) (vs : List ByteArray) (v : Value) (H : AHeap) (r : Mdl H b l) (hl : l.length < 1152921504606846976) (p : Nat) (hp : PosP l key p) (hv : Rd EStr H v vs) (hvl : vs.length < 4611686018427387904) (hc : chk key vs = 0) :
    CC F.model_Model_at [.pointer (some ⟨b, 0, none⟩), .string key, v] H = some (.tuple #[.int .i64 p, .bool (isP l key p), .int .i64 0], H) := by
  have hck := q_check key vs v H hv hvl
  rw [hc] at hck
  have hpl := q_place b l key H r hl p hp
  apply pure_of _ (d_model_Model_at _ _ _ H) rfl
  rotate_left 2
  · simp (disch := first | with_reducible rfl | assumption | omega | rfl | (simp only [go_sem]; first | done | omega)) only [go_sem, ↓reduceIte, reduceCtorEq, Nat.reduceEqDiff, Nat.reduceAdd, Nat.reduceSub, Nat.reduceMul, Nat.reduceDiv, Nat.reduceMod, Nat.reduceLeDiff, Nat.reduceLT, Nat.reduceBEq, Int.reduceEq, Int.reduceBEq, Int.reduceBNe, Int.reduceLT, Int.reduceLE, Int.reduceAdd, Int.reduceSub, Int.reduceNeg, Int.reduceToNat, Int.reducePow, Nat.reducePow, Int.reduceMul, Int.reduceDiv, ↓s_model_Model_at, mp_some, enterK_eq hck, c_model_Model_place, enterK_eq hpl]
    rfl
  · (repeat (first | exact Fr.refl _ | refine Fr.push ?_ _ | refine Fr.set ?_ _ _ (by intro h; first | omega | (simp only [go_sem] at h; omega))))

theorem q_Get_bad (b : Nat) (key : ByteArray) (H : AHeap) (hc : chk key [] ≠ 0) : CC F.model_Model_Get [.pointer (some ⟨b, 0, none⟩), .string key] H = some (.tuple #[.string (mk []), .int .i64 (chk key [])], H) := by
  have hat := q_at_bad b key [] (.slice none 0 0) H (.inl ⟨rfl, rfl⟩) (by simp) hc
  generalize chk key [] = e at hat hc
  apply pure_of _ (d_model_Model_Get _ _ H) rfl
  rotate_left 2
  · simp (disch := first | with_reducible rfl | assumption | omega | rfl | (simp only [go_sem]; first | done | omega)) only [go_sem, ↓reduceIte, reduceCtorEq, Nat.reduceEqDiff, Nat.reduceAdd, Nat.reduceSub, Nat.reduceMul, Nat.reduceDiv, Nat.reduceMod, Nat.reduceLeDiff, Nat.reduceLT, Nat.reduceBEq, Int.reduceEq, Int.reduceBEq, Int.reduceBNe, Int.reduceLT, Int.reduceLE, Int.reduceAdd, Int.reduceSub, Int.reduceNeg, Int.reduceToNat, Int.reducePow, Nat.reducePow, Int.reduceMul, Int.reduceDiv, ↓s_model_Model_Get, enterK_eq hat, hc]
    rfl
  · (repeat (first | exact Fr.refl _ | refine Fr.push ?_ _ | refine Fr.set ?_ _ _ (by intro h; first | omega | (simp only [go_sem] at h; omega))))

/-- What is gotten: the value and the error. -/
def getP (l : List Pr) (key : ByteArray) (p : Nat) : Value := if isP l key p = true then .tuple #[.string ((l[p]?).elim (mk []) Pr.value), .int .i64 0] else .tuple #[.string (mk []), .int .i64 9]

theorem q_Get (b : Nat) (l : List Pr) (key : ByteArray) (H : AHeap) (r : Mdl H b l) (hl : l.length < 1152921504606846976) (p : Nat) (hp : PosP l key p) (hc : chk key [] = 0) :
    CC F.model_Model_Get [.pointer (some ⟨b, 0, none⟩), .string key] H = some (getP l key p, H) := by
  have hat := q_at b l key [] (.slice none 0 0) H r hl p hp (.inl ⟨rfl, rfl⟩) (by simp) hc
  obtain ⟨v, h1, h2, h3, h4⟩ := r
  unfold getP
  cases his : isP l key p with
  | false =>
    rw [his] at hat
    simp only [Bool.false_eq_true, if_false]
    apply pure_of _ (d_model_Model_Get _ _ H) rfl
    rotate_left 2
    · simp (disch := first | with_reducible rfl | assumption | omega | rfl | (simp only [go_sem]; first | done | omega)) only [go_sem, ↓reduceIte, reduceCtorEq, Nat.reduceEqDiff, Nat.reduceAdd, Nat.reduceSub, Nat.reduceMul, Nat.reduceDiv, Nat.reduceMod, Nat.reduceLeDiff, Nat.reduceLT, Nat.reduceBEq, Int.reduceEq, Int.reduceBEq, Int.reduceBNe, Int.reduceLT, Int.reduceLE, Int.reduceAdd, Int.reduceSub, Int.reduceNeg, Int.reduceToNat, Int.reducePow, Nat.reducePow, Int.reduceMul, Int.reduceDiv, ↓s_model_Model_Get, enterK_eq hat]
      rfl
    · (repeat (first | exact Fr.refl _ | refine Fr.push ?_ _ | refine Fr.set ?_ _ _ (by intro h; first | omega | (simp only [go_sem] at h; omega))))
  | true =>
    rw [his] at hat
    have hlt : p < l.length := by
      rcases Nat.lt_or_ge p l.length with h | h
      · exact h
      · unfold isP at his; rw [List.getElem?_eq_none h] at his; cases his
    obtain ⟨bb, o, hix, hb, hcc, _⟩ := h3.rd.ix (q := .i64) hlt
    have hix : ixS 2 v (.int .i64 p) = some (.pointer (some ⟨bb, o, none⟩)) := hix
    have hcc : cellB (H.f bb) (o + 1) = some (.string l[p].value) := cutB_cell hcc (i := 1) (by decide)
    simp only [if_true, List.getElem?_eq_getElem hlt, Option.elim]
    apply pure_of _ (d_model_Model_Get _ _ H) rfl
    rotate_left 2
    · simp (disch := first | with_reducible rfl | assumption | omega | rfl | (simp only [go_sem]; first | done | omega)) only [go_sem, ↓reduceIte, reduceCtorEq, Nat.reduceEqDiff, Nat.reduceAdd, Nat.reduceSub, Nat.reduceMul, Nat.reduceDiv, Nat.reduceMod, Nat.reduceLeDiff, Nat.reduceLT, Nat.reduceBEq, Int.reduceEq, Int.reduceBEq, Int.reduceBNe, Int.reduceLT, Int.reduceLE, Int.reduceAdd, Int.reduceSub, Int.reduceNeg, Int.reduceToNat, Int.reducePow, Nat.reducePow, Int.reduceMul, Int.reduceDiv, ↓s_model_Model_Get, enterK_eq hat, h1, hix, hcc]
      rfl
    · (repeat (first | exact Fr.refl _ | refine Fr.push ?_ _ | refine Fr.set ?_ _ _ (by intro h; first | omega | (simp only [go_sem] at h; omega))))

end Go.Proofs.Ytlagijfkkpbbnaa

/-
  The plain map: set, Put, Insert, Delete, Swap.
  Conditions: none. By an AI agent.
-/
set_option maxRecDepth 10000
set_option linter.unusedSimpArgs false
set_option linter.unusedVariables false
namespace Go.Proofs.Ytlagijfkkpbbnaa
open Go Eng

theorem srcOne {a : Pr} {b : Nat} {H : AHeap} (h : H.f b = .cells [.string a.key, .string a.value] T.api_Pair true) : srcS 2 (.slice (some ⟨b, 0, none⟩) 1 2) H = some ([a].length, EPr.cells [a]) := by
  unfold srcS
  simp only [cut_b, h, Nat.one_ne_zero, if_false]
  rfl

/-- Writing an element of a list of its own. -/
theorem Own.write {l : List Pr} {v : Value} {H : AHeap} (r : Own EPr H T.api_Pair v l) {i : Nat} (hi : i < l.length) (a : Pr) :
    ∃ b o H', ixS 2 v (.int .i64 (i : Int)) = some (.pointer (some ⟨b, o, none⟩)) ∧ setB H b (wrL (H.f b) o [.string a.key, .string a.value]) = some H' ∧ Own EPr H' T.api_Pair v (l.set i a) ∧ blockOf v = some b ∧ b < H.n ∧
      H'.n = H.n ∧ Fr (fun c => c = b) H H' ∧ H'.ver b = H.clk := by
  rcases r with ⟨h, _⟩ | ⟨h, _⟩ | ⟨b, o, c, xs, rfl, hlc, hb, hf, ho, hx⟩
  · subst h; simp at hi
  · subst h; simp at hi
  · have hw : EPr.w = 2 := rfl
    rw [hw] at ho hx
    have hmul : l.length * 2 ≤ c * 2 := Nat.mul_le_mul_right _ hlc
    refine ⟨b, o + i * 2, H.set b (.cells (spl xs (o + i * 2) [.string a.key, .string a.value]) T.api_Pair true), ixS_nat hi, ?_, ?_, rfl, hb, rfl, Fr.set (Fr.refl H) _ _ fun _ => rfl, set_v_eq⟩
    · rw [hf, wrL_c (by simp; omega) rfl, setB_s]
    · refine .inr (.inr ⟨b, o, c, _, by simp, by simpa using hlc, by simpa using hb, set_f_eq, by rw [spl_length, hw, ho], ?_⟩)
      rw [List.length_set, hw]
      apply List.ext_getElem?
      intro j
      have hcell : ∀ (l : List Pr) (k m : Nat), m < 2 → (EPr.cells l)[k * 2 + m]? = (l[k]?).bind fun a => (EPr.enc a)[m]? := by
        intro l k m hm
        by_cases hk : k < l.length
        · have := EPr.cells_elem l k hk
          rw [hw] at this
          rw [List.getElem?_eq_getElem hk, Option.bind_some, ← this, List.getElem?_take_of_lt hm, List.getElem?_drop]
        · rw [List.getElem?_eq_none (by rw [EPr.cells_len, hw]; omega), List.getElem?_eq_none (by omega)]
          rfl
      by_cases hj : j < l.length * 2
      · rw [List.getElem?_take_of_lt hj, List.getElem?_drop, spl_get _ _ _ _ (by simp; omega)]
        have hdm : j = (j / 2) * 2 + j % 2 := by omega
        rw [hdm, hcell _ _ _ (by omega)]
        have hold : xs[o + j]? = (l[j / 2]?).bind fun a => (EPr.enc a)[j % 2]? := by
          rw [← hcell _ _ _ (by omega), ← hdm, ← hx, List.getElem?_take_of_lt hj, List.getElem?_drop]
        by_cases h1 : j / 2 = i
        · rw [if_pos (by simp; omega), ← h1, List.getElem?_set_self (by omega), Option.bind_some]
          rw [show o + (j / 2 * 2 + j % 2) - (o + j / 2 * 2) = j % 2 by omega]
          rfl
        · rw [if_neg (by simp; omega), List.getElem?_set_ne (by omega), ← hdm, hold]
      · rw [List.getElem?_eq_none (by simp only [List.length_take]; omega), List.getElem?_eq_none (by rw [EPr.cells_len, List.length_set, hw]; omega)]

/-- What a call may turn that works on a map: the map's blocks; and it has new ones at most. -/
structure UpT (t : TypeId) (H : AHeap) (b : Nat) (H' : AHeap) : Prop where
  fr : Fr (MBT t H b) H H'
  mb : ∀ c, MBT t H' b c → MBT t H b c ∨ H.n ≤ c
abbrev Up := UpT T.model_Model
theorem UpT.refl {t : TypeId} (H : AHeap) (b : Nat) : UpT t H b H := ⟨Fr.refl H, fun _ h => .inl h⟩
theorem Up.refl (H : AHeap) (b : Nat) : Up H b H := UpT.refl H b
/-- From the map's cell before and behind. -/
theorem UpT.of {t : TypeId} {H H' : AHeap} {b : Nat} {v v' : Value} (h1 : H.f b = .cells [v] t true) (f : Fr (MBT t H b) H H') (h2 : H'.f b = .cells [v'] t true) (h : ∀ c, blockOf v' = some c → blockOf v = some c ∨ H.n ≤ c) : UpT t H b H' := by
  refine ⟨f, fun c hc => ?_⟩
  rcases hc with hc | ⟨u, hu, hb⟩
  · exact .inl (.inl hc)
  · rw [h2] at hu
    cases hu
    exact (h c hb).imp (fun h => .inr ⟨v, h1, h⟩) id

/-- set, where the key is there. -/
theorem q_set_is (b : Nat) (l : List Pr) (i : Nat) (a : Pr) (H : AHeap) (ok : Ok H) (r : Mdl H b l) (hi : i < l.length) :
    ∃ H', CC F.model_Model_set [.pointer (some ⟨b, 0, none⟩), .int .i64 (i : Int), .bool true, .agg #[.string a.key, .string a.value]] H = some (.int .i64 0, H') ∧ Mdl H' b (l.set i a) ∧ Up H b H' := by
  obtain ⟨v, h1, h2, h3, h4⟩ := r
  let H1 : AHeap := H.push (.cells [.string a.key, .string a.value] T.api_Pair true)
  have s1 : Still H H1 := (Fr.refl H).push _
  have o1 : Own EPr H1 T.api_Pair v l := h3.still s1
  obtain ⟨bb, o, H2, hix, hw, o2, hbv, hb, hn2, hf2, hv2⟩ := Own.write o1 hi a
  have hbn : bb < H.n := h3.blk hbv
  have fbb : H1.f bb = H.f bb := s1.f hbn (fun h => h)
  have hw : setB (H.push (.cells [.string a.key, .string a.value] T.api_Pair true)) bb (wrL (H.f bb) o [.string a.key, .string a.value]) = some H2 := by rw [← fbb]; exact hw
  have hne : b ≠ bb := fun h => h4 (by rw [h]; exact hbv)
  have hfr : Fr (MB H b) H H2 := Fr.then (S := MB H b) s1.still hf2 fun c _ h => by subst h; exact .inr ⟨v, h1, hbv⟩
  have hfb : H2.f b = .cells [v] T.model_Model true := by rw [hf2.f (Nat.lt_of_lt_of_le h2 s1.n) hne, s1.f h2 (fun h => h), h1]
  refine ⟨H2, (d_model_Model_set _ _ _ _ H (r := (.int .i64 0, H2)) ?_).trans (congrArg some (tidy_turned hbn (ok bb) ?_)), ⟨v, hfb, by rw [hn2]; exact Nat.lt_of_lt_of_le h2 s1.n, o2, h4⟩, UpT.of h1 hfr hfb fun c h => .inl h⟩
  · simp (disch := first | with_reducible rfl | assumption | omega | rfl | (simp only [go_sem]; first | done | omega)) only [go_sem, ↓reduceIte, reduceCtorEq, Nat.reduceEqDiff, Nat.reduceAdd, Nat.reduceSub, Nat.reduceMul, Nat.reduceDiv, Nat.reduceMod, Nat.reduceLeDiff, Nat.reduceLT, Nat.reduceBEq, Int.reduceEq, Int.reduceBEq, Int.reduceBNe, Int.reduceLT, Int.reduceLE, Int.reduceAdd, Int.reduceSub, Int.reduceNeg, Int.reduceToNat, Int.reducePow, Nat.reducePow, Int.reduceMul, Int.reduceDiv, ↓s_model_Model_set, h1, hix, hw]
  · rw [hv2]; exact s1.clk

/-- set, where there is no room. -/
theorem q_set_full (b : Nat) (l : List Pr) (i : Nat) (a : Pr) (H : AHeap) (r : Mdl H b l) (hl : l.length = 20000) :
    CC F.model_Model_set [.pointer (some ⟨b, 0, none⟩), .int .i64 (i : Int), .bool false, .agg #[.string a.key, .string a.value]] H = some (.int .i64 7, H) := by
  obtain ⟨v, h1, h2, h3, h4⟩ := r
  have hlen := h3.rd.lenS
  have he : (l.length : Int) = 20000 := by omega
  rw [he] at hlen
  apply pure_of _ (d_model_Model_set _ _ _ _ H) rfl
  rotate_left 2
  · simp (disch := first | with_reducible rfl | assumption | omega | rfl | (simp only [go_sem]; first | done | omega)) only [go_sem, ↓reduceIte, reduceCtorEq, Nat.reduceEqDiff, Nat.reduceAdd, Nat.reduceSub, Nat.reduceMul, Nat.reduceDiv, Nat.reduceMod, Nat.reduceLeDiff, Nat.reduceLT, Nat.reduceBEq, Int.reduceEq, Int.reduceBEq, Int.reduceBNe, Int.reduceLT, Int.reduceLE, Int.reduceAdd, Int.reduceSub, Int.reduceNeg, Int.reduceToNat, Int.reducePow, Nat.reducePow, Int.reduceMul, Int.reduceDiv, ↓s_model_Model_set, h1, hlen]
    rfl
  · (repeat (first | exact Fr.refl _ | refine Fr.push ?_ _ | refine Fr.set ?_ _ _ (by intro h; first | omega | (simp only [go_sem] at h; omega))))

/-- set, where the key is not there. -/
theorem q_set_new (b : Nat) (l : List Pr) (i : Nat) (a : Pr) (H : AHeap) (ok : Ok H) (r : Mdl H b l) (hi : i ≤ l.length) (hl : l.length < 20000) :
    ∃ H', CC F.model_Model_set [.pointer (some ⟨b, 0, none⟩), .int .i64 (i : Int), .bool false, .agg #[.string a.key, .string a.value]] H = some (.int .i64 0, H') ∧ Mdl H' b (l.take i ++ a :: l.drop i) ∧ Up H b H' := by
  obtain ⟨v, h1, h2, h3, h4⟩ := r
  have hlen := h3.rd.lenS
  have hne : ¬ (l.length : Int) = 20000 := by omega
  generalize hH1 : H.push (.cells [.string a.key, .string a.value] T.api_Pair true) = H1
  have s1 : Still H H1 := by rw [← hH1]; exact (Fr.refl H).push _
  have n1 : H1.n = H.n + 1 := by rw [← hH1]; rfl
  have f1 : H1.f H.n = .cells [.string a.key, .string a.value] T.api_Pair true := by rw [← hH1]; exact push_f_eq rfl
  have fb1 : H1.f b = .cells [v] T.model_Model true := by rw [s1.f h2 (fun h => h), h1]
  generalize hH2 : H1.push (.cells [.string a.key, .string a.value] T.api_Pair true) = H2
  have s2 : Still H1 H2 := by rw [← hH2]; exact (Fr.refl H1).push _
  have n2 : H2.n = H1.n + 1 := by rw [← hH2]; rfl
  have f2 : H2.f H1.n = .cells [.string a.key, .string a.value] T.api_Pair true := by rw [← hH2]; exact push_f_eq rfl
  have fb2 : H2.f b = .cells [v] T.model_Model true := by rw [s2.f (by omega) (fun h => h), fb1]
  have hnb : ∀ c, blockOf v = some c → c < H.n := fun c h => h3.blk h
  obtain ⟨v6, H4, hins, ho6, fr4, hb6⟩ := q_insert_Pair l v a H1.n i H2 ((h3.still s1).still s2) (by omega) hi (by omega) f2 (fun h => by have := hnb _ h; omega)
  have hone6 : one v6 = true := ho6.cell
  have fb4 : H4.f b = .cells [v] T.model_Model true := by rw [fr4.f (by omega) h4, fb2]
  have n4 : H2.n ≤ H4.n := fr4.n
  generalize hH5 : H4.set b (.cells [v6] T.model_Model true) = H5
  have f5 : Fr (MB H b) H H5 := by
    rw [← hH5]
    refine Fr.set ?_ b _ (fun _ => .inl rfl)
    refine (s1.then s2 fun _ _ h => h).still.then (S := MB H b) fr4 fun c hc h => .inr ⟨v, h1, h⟩
  have hup : Up H b H5 := UpT.of h1 f5 (v' := v6) (by rw [← hH5]; exact set_f_eq) fun c hc => by
    rcases hb6 with h | ⟨x, h, hx⟩
    · exact .inl (by rw [← h]; exact hc)
    · rw [h] at hc; cases hc; exact .inr (by omega)
  refine ⟨H5, (d_model_Model_set _ _ _ _ H (r := (.int .i64 0, H5)) ?_).trans (congrArg some (tidy_turned h2 (ok b) ?_)), ?_, hup⟩
  · simp (disch := first | with_reducible rfl | assumption | omega | rfl | (simp only [go_sem]; first | done | omega)) only [go_sem, ↓reduceIte, reduceCtorEq, Nat.reduceEqDiff, Nat.reduceAdd, Nat.reduceSub, Nat.reduceMul, Nat.reduceDiv, Nat.reduceMod, Nat.reduceLeDiff, Nat.reduceLT, Nat.reduceBEq, Int.reduceEq, Int.reduceBEq, Int.reduceBNe, Int.reduceLT, Int.reduceLE, Int.reduceAdd, Int.reduceSub, Int.reduceNeg, Int.reduceToNat, Int.reducePow, Nat.reducePow, Int.reduceMul, Int.reduceDiv, ↓s_model_Model_set, hH1, fb1, f1, hlen, hne, hH2, enterK_eq hins, fb4, hH5]
  · rw [← hH5, set_v_eq]
    exact Nat.le_trans s1.clk (Nat.le_trans s2.clk fr4.clk)
  · have hb6' : blockOf v6 ≠ some b := by
      rcases hb6 with h | ⟨x, h, hx⟩
      · rw [h]; exact h4
      · rw [h]; intro h; cases h; omega
    refine ⟨v6, by rw [← hH5]; exact set_f_eq, by rw [← hH5]; simp; omega, ?_, hb6'⟩
    rw [← hH5]
    exact ho6.keep (S := fun x => x = b) (Fr.set (Fr.refl H4) b _ fun _ => rfl) fun c hc h => hb6' (h ▸ hc)

/-- The block of a new value: nothing of the map. -/
theorem rdOne (a : ByteArray) (H : AHeap) : Rd EStr (H.push (.cells [.string a] T.string true)) (.slice (some ⟨H.n, 0, none⟩) 1 2) [a] := by
  refine .inr (.inr ⟨H.n, 0, 2, rfl, by simp, by simp, ?_⟩)
  rw [push_f_eq rfl]
  rfl

theorem MB_still {t : TypeId} {H H1 : AHeap} {b : Nat} {v : Value} (h1 : H.f b = .cells [v] t true) (h2 : b < H.n) (s : Still H H1) : ∀ c, c < H.n → MBT t H1 b c → MBT t H b c := by
  intro c hc h
  rcases h with h | ⟨u, hu, hb⟩
  · exact .inl h
  · rw [s.f h2 (fun h => h)] at hu
    exact .inr ⟨u, hu, hb⟩

/-- What Put makes of a map: the error and the map. -/
def putP (l : List Pr) (a : Pr) (p : Nat) : Int × List Pr :=
  if isP l a.key p = true then (0, l.set p a) else if l.length = 20000 then (7, l) else (0, l.take p ++ a :: l.drop p)

theorem isP_lt {l : List Pr} {key : ByteArray} {p : Nat} (h : isP l key p = true) : p < l.length := by
  rcases Nat.lt_or_ge p l.length with h' | h'
  · exact h'
  · unfold isP at h; rw [List.getElem?_eq_none h'] at h; cases h

theorem q_set (b : Nat) (l : List Pr) (a : Pr) (p : Nat) (H : AHeap) (ok : Ok H) (r : Mdl H b l) (hp : p ≤ l.length) (hl : l.length ≤ 20000) :
    ∃ H', CC F.model_Model_set [.pointer (some ⟨b, 0, none⟩), .int .i64 (p : Int), .bool (isP l a.key p), .agg #[.string a.key, .string a.value]] H = some (.int .i64 (putP l a p).1, H') ∧ Mdl H' b (putP l a p).2 ∧ Up H b H' := by
  unfold putP
  cases his : isP l a.key p with
  | true => exact q_set_is b l p a H ok r (isP_lt his)
  | false =>
    simp only [Bool.false_eq_true, if_false]
    by_cases hf : l.length = 20000
    · rw [if_pos hf]; exact ⟨H, q_set_full b l p a H r hf, r, Up.refl H b⟩
    · rw [if_neg hf]; exact q_set_new b l p a H ok r hp (by omega)

theorem q_Put_bad (b : Nat) (l : List Pr) (a : Pr) (H : AHeap) (r : Mdl H b l) (hc : chk a.key [a.value] ≠ 0) :
    CC F.model_Model_Put [.pointer (some ⟨b, 0, none⟩), .string a.key, .string a.value] H = some (.int .i64 (chk a.key [a.value]), H) := by
  have hat := q_at_bad b a.key [a.value] _ _ (rdOne a.value H) (by simp) hc
  generalize chk a.key [a.value] = e at hat hc
  apply pure_of _ (d_model_Model_Put _ _ _ H) rfl
  rotate_left 2
  · simp (disch := first | with_reducible rfl | assumption | omega | rfl | (simp only [go_sem]; first | done | omega)) only [go_sem, ↓reduceIte, reduceCtorEq, Nat.reduceEqDiff, Nat.reduceAdd, Nat.reduceSub, Nat.reduceMul, Nat.reduceDiv, Nat.reduceMod, Nat.reduceLeDiff, Nat.reduceLT, Nat.reduceBEq, Int.reduceEq, Int.reduceBEq, Int.reduceBNe, Int.reduceLT, Int.reduceLE, Int.reduceAdd, Int.reduceSub, Int.reduceNeg, Int.reduceToNat, Int.reducePow, Nat.reducePow, Int.reduceMul, Int.reduceDiv, ↓s_model_Model_Put, enterK_eq hat, hc]
    rfl
  · (repeat (first | exact Fr.refl _ | refine Fr.push ?_ _ | refine Fr.set ?_ _ _ (by intro h; first | omega | (simp only [go_sem] at h; omega))))

/-- A call that turns the map, behind a new block. -/
theorem after_push {t : TypeId} {H H1 H' : AHeap} {b : Nat} {l : List Pr} (r : MdlT t H b l) (s : Still H H1) (f : UpT t H1 b H') : UpT t H b H' := by
  obtain ⟨v, h1, h2, h3, h4⟩ := r
  refine ⟨s.still.then (S := MBT t H b) f.fr fun c hc h => MB_still h1 h2 s c hc h, fun c hc => ?_⟩
  rcases f.mb c hc with h | h
  · rcases Nat.lt_or_ge c H.n with h' | h'
    · exact .inl (MB_still h1 h2 s c h' h)
    · exact .inr h'
  · exact .inr (Nat.le_trans s.n h)

/-- What is told of a map behind a call that may have turned it: where the call is forgotten, nothing was. -/
theorem Mdl.tidied {t : TypeId} {H H' : AHeap} {b : Nat} {l l' : List Pr} {v : Value} (ok : Ok H) (r : MdlT t H b l) (hm : MdlT t H' b l') (hfr : UpT t H b H') : ∃ H'', tidy H (v, H') = (v, H'') ∧ MdlT t H'' b l' ∧ UpT t H b H'' := by
  unfold tidy
  split
  · rename_i hg
    simp only [Bool.and_eq_true] at hg
    refine ⟨H, rfl, ?_, UpT.refl H b⟩
    obtain ⟨v, h1, h2, h3, h4⟩ := r
    obtain ⟨v', h1', h2', h3', h4'⟩ := hm
    have hsame : ∀ c, c < H.n → H'.f c = H.f c := by
      intro c hc
      rcases hfr.fr.old c hc with h | ⟨h, _⟩
      · exact h.2
      · have := List.all_eq_true.1 hg.2 c (by simpa using hc)
        have := ok c
        simp at *
        omega
    rw [hsame b h2, h1] at h1'
    cases h1'
    refine ⟨v, h1, h2, ?_, h4⟩
    rcases h3' with h | ⟨hl, x, hv, hs, hb⟩ | ⟨bb, o, c, xs, hv, hlc, hb, hff, ho, hx⟩
    · exact .inl h
    · exact .inr (.inl ⟨hl, x, hv, hs, h3.blk (by rw [hv]; rfl)⟩)
    · have hbb : bb < H.n := h3.blk (by rw [hv]; rfl)
      exact .inr (.inr ⟨bb, o, c, xs, hv, hlc, hbb, by rw [← hsame bb hbb]; exact hff, ho, hx⟩)
  · exact ⟨H', rfl, hm, hfr⟩

theorem q_Put (b : Nat) (l : List Pr) (a : Pr) (H : AHeap) (ok : Ok H) (r : Mdl H b l) (hl : l.length ≤ 20000) (p : Nat) (hp : PosP l a.key p) (hc : chk a.key [a.value] = 0) :
    ∃ H', CC F.model_Model_Put [.pointer (some ⟨b, 0, none⟩), .string a.key, .string a.value] H = some (.int .i64 (putP l a p).1, H') ∧ Mdl H' b (putP l a p).2 ∧ Up H b H' := by
  have s1 : Still H (H.push (.cells [.string a.value] T.string true)) := (Fr.refl H).push _
  have r1 := r.still s1
  have hat := q_at b l a.key [a.value] _ _ r1 (by omega) p hp (rdOne a.value H) (by simp) hc
  obtain ⟨H', hset, hm, hf⟩ := q_set b l a p _ (ok.fr s1) r1 hp.1 hl
  have hfr := after_push r s1 hf
  obtain ⟨H'', ht, hm', hf'⟩ := Mdl.tidied (v := .int .i64 (putP l a p).1) ok r hm hfr
  refine ⟨H'', (d_model_Model_Put _ _ _ H (r := (.int .i64 (putP l a p).1, H')) ?_).trans (congrArg some ht), hm', hf'⟩
  simp (disch := first | with_reducible rfl | assumption | omega | rfl | (simp only [go_sem]; first | done | omega)) only [go_sem, ↓reduceIte, reduceCtorEq, Nat.reduceEqDiff, Nat.reduceAdd, Nat.reduceSub, Nat.reduceMul, Nat.reduceDiv, Nat.reduceMod, Nat.reduceLeDiff, Nat.reduceLT, Nat.reduceBEq, Int.reduceEq, Int.reduceBEq, Int.reduceBNe, Int.reduceLT, Int.reduceLE, Int.reduceAdd, Int.reduceSub, Int.reduceNeg, Int.reduceToNat, Int.reducePow, Nat.reducePow, Int.reduceMul, Int.reduceDiv, ↓s_model_Model_Put, enterK_eq hat, enterK_eq hset]

/-- What Insert makes of a map. -/
def insertP (l : List Pr) (a : Pr) (p : Nat) : Int × List Pr :=
  if isP l a.key p = true then (11, l) else if l.length = 20000 then (7, l) else (0, l.take p ++ a :: l.drop p)

theorem q_Insert_bad (b : Nat) (l : List Pr) (a : Pr) (H : AHeap) (r : Mdl H b l) (hc : chk a.key [a.value] ≠ 0) :
    CC F.model_Model_Insert [.pointer (some ⟨b, 0, none⟩), .string a.key, .string a.value] H = some (.int .i64 (chk a.key [a.value]), H) := by
  have hat := q_at_bad b a.key [a.value] _ _ (rdOne a.value H) (by simp) hc
  generalize chk a.key [a.value] = e at hat hc
  apply pure_of _ (d_model_Model_Insert _ _ _ H) rfl
  rotate_left 2
  · simp (disch := first | with_reducible rfl | assumption | omega | rfl | (simp only [go_sem]; first | done | omega)) only [go_sem, ↓reduceIte, reduceCtorEq, Nat.reduceEqDiff, Nat.reduceAdd, Nat.reduceSub, Nat.reduceMul, Nat.reduceDiv, Nat.reduceMod, Nat.reduceLeDiff, Nat.reduceLT, Nat.reduceBEq, Int.reduceEq, Int.reduceBEq, Int.reduceBNe, Int.reduceLT, Int.reduceLE, Int.reduceAdd, Int.reduceSub, Int.reduceNeg, Int.reduceToNat, Int.reducePow, Nat.reducePow, Int.reduceMul, Int.reduceDiv, ↓s_model_Model_Insert, enterK_eq hat, hc]
    rfl
  · (repeat (first | exact Fr.refl _ | refine Fr.push ?_ _ | refine Fr.set ?_ _ _ (by intro h; first | omega | (simp only [go_sem] at h; omega))))

theorem q_Insert (b : Nat) (l : List Pr) (a : Pr) (H : AHeap) (ok : Ok H) (r : Mdl H b l) (hl : l.length ≤ 20000) (p : Nat) (hp : PosP l a.key p) (hc : chk a.key [a.value] = 0) :
    ∃ H', CC F.model_Model_Insert [.pointer (some ⟨b, 0, none⟩), .string a.key, .string a.value] H = some (.int .i64 (insertP l a p).1, H') ∧ Mdl H' b (insertP l a p).2 ∧ Up H b H' := by
  have s1 : Still H (H.push (.cells [.string a.value] T.string true)) := (Fr.refl H).push _
  have r1 := r.still s1
  have hat := q_at b l a.key [a.value] _ _ r1 (by omega) p hp (rdOne a.value H) (by simp) hc
  obtain ⟨H', hset, hm, hf⟩ := q_set b l a p _ (ok.fr s1) r1 hp.1 hl
  unfold insertP
  cases his : isP l a.key p with
  | true =>
    rw [his] at hat
    refine ⟨H, ?_, r, Up.refl H b⟩
    apply pure_of _ (d_model_Model_Insert _ _ _ H) rfl
    rotate_left 2
    · simp (disch := first | with_reducible rfl | assumption | omega | rfl | (simp only [go_sem]; first | done | omega)) only [go_sem, ↓reduceIte, reduceCtorEq, Nat.reduceEqDiff, Nat.reduceAdd, Nat.reduceSub, Nat.reduceMul, Nat.reduceDiv, Nat.reduceMod, Nat.reduceLeDiff, Nat.reduceLT, Nat.reduceBEq, Int.reduceEq, Int.reduceBEq, Int.reduceBNe, Int.reduceLT, Int.reduceLE, Int.reduceAdd, Int.reduceSub, Int.reduceNeg, Int.reduceToNat, Int.reducePow, Nat.reducePow, Int.reduceMul, Int.reduceDiv, ↓s_model_Model_Insert, enterK_eq hat]
      rfl
    · (repeat (first | exact Fr.refl _ | refine Fr.push ?_ _ | refine Fr.set ?_ _ _ (by intro h; first | omega | (simp only [go_sem] at h; omega))))
  | false =>
    rw [his] at hat hset
    have e : putP l a p = if l.length = 20000 then (7, l) else (0, l.take p ++ a :: l.drop p) := by unfold putP; rw [his]; rfl
    rw [e] at hset hm
    simp only [Bool.false_eq_true, if_false]
    generalize (if l.length = 20000 then ((7 : Int), l) else (0, l.take p ++ a :: l.drop p)) = w at hset hm ⊢
    obtain ⟨H'', ht, hm', hf'⟩ := Mdl.tidied (v := .int .i64 w.1) ok r hm (after_push r s1 hf)
    refine ⟨H'', (d_model_Model_Insert _ _ _ H (r := (.int .i64 w.1, H')) ?_).trans (congrArg some ht), hm', hf'⟩
    simp (disch := first | with_reducible rfl | assumption | omega | rfl | (simp only [go_sem]; first | done | omega)) only [go_sem, ↓reduceIte, reduceCtorEq, Nat.reduceEqDiff, Nat.reduceAdd, Nat.reduceSub, Nat.reduceMul, Nat.reduceDiv, Nat.reduceMod, Nat.reduceLeDiff, Nat.reduceLT, Nat.reduceBEq, Int.reduceEq, Int.reduceBEq, Int.reduceBNe, Int.reduceLT, Int.reduceLE, Int.reduceAdd, Int.reduceSub, Int.reduceNeg, Int.reduceToNat, Int.reducePow, Nat.reducePow, Int.reduceMul, Int.reduceDiv, ↓s_model_Model_Insert, enterK_eq hat, enterK_eq hset]

theorem q_Delete_bad (b : Nat) (key : ByteArray) (H : AHeap) (hc : chk key [] ≠ 0) : CC F.model_Model_Delete [.pointer (some ⟨b, 0, none⟩), .string key] H = some (.tuple #[.string (mk []), .int .i64 (chk key [])], H) := by
  have hg := q_Get_bad b key H hc
  generalize chk key [] = e at hg hc
  apply pure_of _ (d_model_Model_Delete _ _ H) rfl
  rotate_left 2
  · simp (disch := first | with_reducible rfl | assumption | omega | rfl | (simp only [go_sem]; first | done | omega)) only [go_sem, ↓reduceIte, reduceCtorEq, Nat.reduceEqDiff, Nat.reduceAdd, Nat.reduceSub, Nat.reduceMul, Nat.reduceDiv, Nat.reduceMod, Nat.reduceLeDiff, Nat.reduceLT, Nat.reduceBEq, Int.reduceEq, Int.reduceBEq, Int.reduceBNe, Int.reduceLT, Int.reduceLE, Int.reduceAdd, Int.reduceSub, Int.reduceNeg, Int.reduceToNat, Int.reducePow, Nat.reducePow, Int.reduceMul, Int.reduceDiv, ↓s_model_Model_Delete, enterK_eq hg, hc]
    rfl
  · (repeat (first | exact Fr.refl _ | refine Fr.push ?_ _ | refine Fr.set ?_ _ _ (by intro h; first | omega | (simp only [go_sem] at h; omega))))

theorem q_Delete (b : Nat) (l : List Pr) (key : ByteArray) (H : AHeap) (ok : Ok H) (r : Mdl H b l) (hl : l.length ≤ 20000) (p : Nat) (hp : PosP l key p) (hc : chk key [] = 0) :
    ∃ H', CC F.model_Model_Delete [.pointer (some ⟨b, 0, none⟩), .string key] H = some (getP l key p, H') ∧ Mdl H' b (if isP l key p = true then l.take p ++ l.drop (p + 1) else l) ∧ Up H b H' := by
  have hg := q_Get b l key H r (by omega) p hp hc
  unfold getP at hg ⊢
  cases his : isP l key p with
  | false =>
    rw [his] at hg
    simp only [Bool.false_eq_true, if_false] at hg ⊢
    refine ⟨H, ?_, r, Up.refl H b⟩
    apply pure_of _ (d_model_Model_Delete _ _ H) rfl
    rotate_left 2
    · simp (disch := first | with_reducible rfl | assumption | omega | rfl | (simp only [go_sem]; first | done | omega)) only [go_sem, ↓reduceIte, reduceCtorEq, Nat.reduceEqDiff, Nat.reduceAdd, Nat.reduceSub, Nat.reduceMul, Nat.reduceDiv, Nat.reduceMod, Nat.reduceLeDiff, Nat.reduceLT, Nat.reduceBEq, Int.reduceEq, Int.reduceBEq, Int.reduceBNe, Int.reduceLT, Int.reduceLE, Int.reduceAdd, Int.reduceSub, Int.reduceNeg, Int.reduceToNat, Int.reducePow, Nat.reducePow, Int.reduceMul, Int.reduceDiv, ↓s_model_Model_Delete, enterK_eq hg]
      rfl
    · (repeat (first | exact Fr.refl _ | refine Fr.push ?_ _ | refine Fr.set ?_ _ _ (by intro h; first | omega | (simp only [go_sem] at h; omega))))
  | true =>
    have hlt := isP_lt his
    have hpl := q_place b l key H r (by omega) p hp
    rw [his] at hg
    simp only [if_true] at hg ⊢
    generalize (l[p]?).elim (mk []) Pr.value = old at hg ⊢
    obtain ⟨v, h1, h2, h3, h4⟩ := r
    obtain ⟨v6, H4, hdel, ho6, fr4, hb6⟩ := q_delete_Pair l v p H h3 (by omega) hlt
    have hone6 : one v6 = true := ho6.cell
    have fb4 : H4.f b = .cells [v] T.model_Model true := by rw [fr4.f h2 h4, h1]
    have n4 : H.n ≤ H4.n := fr4.n
    generalize hH5 : H4.set b (.cells [v6] T.model_Model true) = H5
    have f5 : Fr (MB H b) H H5 := by
      rw [← hH5]
      refine Fr.set ?_ b _ (fun _ => .inl rfl)
      exact fr4.mono fun c _ h => .inr ⟨v, h1, h⟩
    have hup : Up H b H5 := UpT.of h1 f5 (v' := v6) (by rw [← hH5]; exact set_f_eq) fun c hc => .inl (by rw [← hb6]; exact hc)
    refine ⟨H5, (d_model_Model_Delete _ _ H (r := (.tuple #[.string old, .int .i64 0], H5)) ?_).trans (congrArg some (tidy_turned h2 (ok b) ?_)), ?_, hup⟩
    · simp (disch := first | with_reducible rfl | assumption | omega | rfl | (simp only [go_sem]; first | done | omega)) only [go_sem, ↓reduceIte, reduceCtorEq, Nat.reduceEqDiff, Nat.reduceAdd, Nat.reduceSub, Nat.reduceMul, Nat.reduceDiv, Nat.reduceMod, Nat.reduceLeDiff, Nat.reduceLT, Nat.reduceBEq, Int.reduceEq, Int.reduceBEq, Int.reduceBNe, Int.reduceLT, Int.reduceLE, Int.reduceAdd, Int.reduceSub, Int.reduceNeg, Int.reduceToNat, Int.reducePow, Nat.reducePow, Int.reduceMul, Int.reduceDiv, ↓s_model_Model_Delete, enterK_eq hg, enterK_eq hpl, h1, enterK_eq hdel, fb4, hH5]
    · rw [← hH5, set_v_eq]
      exact fr4.clk
    · refine ⟨v6, by rw [← hH5]; exact set_f_eq, by rw [← hH5]; simp; omega, ?_, by rw [hb6]; exact h4⟩
      rw [← hH5]
      refine ho6.keep (S := fun x => x = b) (Fr.set (Fr.refl H4) b _ fun _ => rfl) ?_
      intro c hc h
      rw [hb6, h] at hc
      exact h4 hc

end Go.Proofs.Ytlagijfkkpbbnaa

/-
  The plain map: Swap, Range, Min, Max, Len, Pairs, Copy, Equal, Of.
  Conditions: none. By an AI agent.
-/
set_option maxRecDepth 10000
set_option linter.unusedSimpArgs false
set_option linter.unusedVariables false
namespace Go.Proofs.Ytlagijfkkpbbnaa
open Go Eng

@[go_sem] theorem xload_Pair {a : Value} {H : AHeap} : xload Try.prog T.api_Pair a H = ldN 2 H a := by kernel_rfl
theorem pair_ne {ox oy : Operand} {a b : Pr} : xbin Try.prog .neq T.api_Pair ox oy (.agg #[.string a.key, .string a.value]) (.agg #[.string b.key, .string b.value]) = some (.bool (!(decide (bl a.key = bl b.key) && decide (bl a.value = bl b.value)))) := by
  have h := agg_ne (P := Try.prog) (t := T.api_Pair) (xs := [.string a.key, .string a.value]) (ys := [.string b.key, .string b.value]) (ox := ox) (oy := oy) Try.underlying31 (by kernel_rfl) (by kernel_rfl) (by kernel_rfl) rfl rfl
  rw [h]
  simp [ceqs, ceq]
theorem pair_eq {ox oy : Operand} {a b : Pr} : xbin Try.prog .eql T.api_Pair ox oy (.agg #[.string a.key, .string a.value]) (.agg #[.string b.key, .string b.value]) = some (.bool (decide (bl a.key = bl b.key) && decide (bl a.value = bl b.value))) := by
  have h := agg_eq (P := Try.prog) (t := T.api_Pair) (xs := [.string a.key, .string a.value]) (ys := [.string b.key, .string b.value]) (ox := ox) (oy := oy) Try.underlying31 (by kernel_rfl) (by kernel_rfl) (by kernel_rfl) rfl rfl
  rw [h]
  simp [ceqs, ceq]
theorem pr_ext {a b : Pr} : a = b ↔ bl a.key = bl b.key ∧ bl a.value = bl b.value := by
  constructor
  · rintro rfl; exact ⟨rfl, rfl⟩
  · rintro ⟨h1, h2⟩
    cases a; cases b
    simp only at h1 h2
    rw [bl_inj h1, bl_inj h2]

/-! ### Swap -/
theorem rdTwo (a c : ByteArray) (H : AHeap) : Rd EStr (H.push (.cells [.string a, .string c] T.string true)) (.slice (some ⟨H.n, 0, none⟩) 2 4) [a, c] := by
  refine .inr (.inr ⟨H.n, 0, 4, rfl, by simp, by simp, ?_⟩)
  rw [push_f_eq rfl]
  rfl

/-- What Swap makes of a map. -/
def swapP (l : List Pr) (key old new : ByteArray) (p : Nat) : Int × List Pr :=
  if isP l key p = true then (if bl ((l[p]?).elim (mk []) Pr.value) = bl old then (0, l.set p ⟨key, new⟩) else (11, l)) else (9, l)

theorem q_Swap_bad (b : Nat) (l : List Pr) (key old new : ByteArray) (H : AHeap) (r : Mdl H b l) (hc : chk key [old, new] ≠ 0) :
    CC F.model_Model_Swap [.pointer (some ⟨b, 0, none⟩), .string key, .string old, .string new] H = some (.int .i64 (chk key [old, new]), H) := by
  have hat := q_at_bad b key [old, new] _ _ (rdTwo old new H) (by simp) hc
  generalize chk key [old, new] = e at hat hc
  apply pure_of _ (d_model_Model_Swap _ _ _ _ H) rfl
  rotate_left 2
  · simp (disch := first | with_reducible rfl | assumption | omega | rfl | (simp only [go_sem]; first | done | omega)) only [go_sem, ↓reduceIte, reduceCtorEq, Nat.reduceEqDiff, Nat.reduceAdd, Nat.reduceSub, Nat.reduceMul, Nat.reduceDiv, Nat.reduceMod, Nat.reduceLeDiff, Nat.reduceLT, Nat.reduceBEq, Int.reduceEq, Int.reduceBEq, Int.reduceBNe, Int.reduceLT, Int.reduceLE, Int.reduceAdd, Int.reduceSub, Int.reduceNeg, Int.reduceToNat, Int.reducePow, Nat.reducePow, Int.reduceMul, Int.reduceDiv, ↓s_model_Model_Swap, enterK_eq hat, hc]
    rfl
  · (repeat (first | exact Fr.refl _ | refine Fr.push ?_ _ | refine Fr.set ?_ _ _ (by intro h; first | omega | (simp only [go_sem] at h; omega))))

theorem q_Swap (b : Nat) (l : List Pr) (key old new : ByteArray) (H : AHeap) (ok : Ok H) (r : Mdl H b l) (hl : l.length ≤ 20000) (p : Nat) (hp : PosP l key p) (hc : chk key [old, new] = 0) :
    ∃ H', CC F.model_Model_Swap [.pointer (some ⟨b, 0, none⟩), .string key, .string old, .string new] H = some (.int .i64 (swapP l key old new p).1, H') ∧ Mdl H' b (swapP l key old new p).2 ∧ Up H b H' := by
  generalize hH1 : H.push (.cells [.string old, .string new] T.string true) = H1
  have s1 : Still H H1 := by rw [← hH1]; exact (Fr.refl H).push _
  have r1 := r.still s1
  have hrd := rdTwo old new H
  rw [hH1] at hrd
  have hat := q_at b l key [old, new] _ _ r1 (by omega) p hp hrd (by simp) hc
  unfold swapP
  cases his : isP l key p with
  | false =>
    rw [his] at hat
    simp only [Bool.false_eq_true, if_false]
    refine ⟨H, ?_, r, Up.refl H b⟩
    refine pure_of (H' := H1) ?_ (d_model_Model_Swap _ _ _ _ H) rfl s1
    simp (disch := first | with_reducible rfl | assumption | omega | rfl | (simp only [go_sem]; first | done | omega)) only [go_sem, ↓reduceIte, reduceCtorEq, Nat.reduceEqDiff, Nat.reduceAdd, Nat.reduceSub, Nat.reduceMul, Nat.reduceDiv, Nat.reduceMod, Nat.reduceLeDiff, Nat.reduceLT, Nat.reduceBEq, Int.reduceEq, Int.reduceBEq, Int.reduceBNe, Int.reduceLT, Int.reduceLE, Int.reduceAdd, Int.reduceSub, Int.reduceNeg, Int.reduceToNat, Int.reducePow, Nat.reducePow, Int.reduceMul, Int.reduceDiv, ↓s_model_Model_Swap, hH1, enterK_eq hat]
  | true =>
    rw [his] at hat
    have hlt := isP_lt his
    obtain ⟨v, h1, h2, h3, h4⟩ := id r1
    obtain ⟨bb, o, hix, hb, hcc, _⟩ := h3.rd.ix (q := .i64) hlt
    have hix : ixS 2 v (.int .i64 p) = some (.pointer (some ⟨bb, o, none⟩)) := hix
    have hcc : cellB (H1.f bb) (o + 1) = some (.string l[p].value) := cutB_cell hcc (i := 1) (by decide)
    simp only [if_true, List.getElem?_eq_getElem hlt, Option.elim]
    by_cases heq : bl l[p].value = bl old
    · have hd : decide (bl l[p].value = bl old) = true := decide_eq_true heq
      rw [if_pos heq]
      obtain ⟨H', hset, hm, hf⟩ := q_set_is b l p ⟨key, new⟩ H1 (ok.fr s1) r1 hlt
      obtain ⟨H'', ht, hm', hf'⟩ := Mdl.tidied (v := .int .i64 0) ok r hm (after_push r s1 hf)
      refine ⟨H'', (d_model_Model_Swap _ _ _ _ H (r := (.int .i64 0, H')) ?_).trans (congrArg some ht), hm', hf'⟩
      simp (disch := first | with_reducible rfl | assumption | omega | rfl | (simp only [go_sem]; first | done | omega)) only [go_sem, ↓reduceIte, reduceCtorEq, Nat.reduceEqDiff, Nat.reduceAdd, Nat.reduceSub, Nat.reduceMul, Nat.reduceDiv, Nat.reduceMod, Nat.reduceLeDiff, Nat.reduceLT, Nat.reduceBEq, Int.reduceEq, Int.reduceBEq, Int.reduceBNe, Int.reduceLT, Int.reduceLE, Int.reduceAdd, Int.reduceSub, Int.reduceNeg, Int.reduceToNat, Int.reducePow, Nat.reducePow, Int.reduceMul, Int.reduceDiv, ↓s_model_Model_Swap, hH1, enterK_eq hat, h1, hix, hcc, hd, enterK_eq hset]
    · have hd : decide (bl l[p].value = bl old) = false := decide_eq_false heq
      rw [if_neg heq]
      refine ⟨H, ?_, r, Up.refl H b⟩
      refine pure_of (H' := H1) ?_ (d_model_Model_Swap _ _ _ _ H) rfl s1
      simp (disch := first | with_reducible rfl | assumption | omega | rfl | (simp only [go_sem]; first | done | omega)) only [go_sem, ↓reduceIte, reduceCtorEq, Nat.reduceEqDiff, Nat.reduceAdd, Nat.reduceSub, Nat.reduceMul, Nat.reduceDiv, Nat.reduceMod, Nat.reduceLeDiff, Nat.reduceLT, Nat.reduceBEq, Int.reduceEq, Int.reduceBEq, Int.reduceBNe, Int.reduceLT, Int.reduceLE, Int.reduceAdd, Int.reduceSub, Int.reduceNeg, Int.reduceToNat, Int.reducePow, Nat.reducePow, Int.reduceMul, Int.reduceDiv, ↓s_model_Model_Swap, hH1, enterK_eq hat, h1, hix, hcc, hd]

/-! ### Len, Pairs, Copy, Min, Max -/
theorem q_Len (b : Nat) (l : List Pr) (H : AHeap) (r : Mdl H b l) : CC F.model_Model_Len [.pointer (some ⟨b, 0, none⟩)] H = some (.int .i64 l.length, H) := by
  obtain ⟨v, h1, h2, h3, h4⟩ := r
  have hlen := h3.rd.lenS
  apply pure_of _ (d_model_Model_Len _ H) rfl
  rotate_left 2
  · simp (disch := first | with_reducible rfl | assumption | omega | rfl | (simp only [go_sem]; first | done | omega)) only [go_sem, ↓reduceIte, reduceCtorEq, Nat.reduceEqDiff, Nat.reduceAdd, Nat.reduceSub, Nat.reduceMul, Nat.reduceDiv, Nat.reduceMod, Nat.reduceLeDiff, Nat.reduceLT, Nat.reduceBEq, Int.reduceEq, Int.reduceBEq, Int.reduceBNe, Int.reduceLT, Int.reduceLE, Int.reduceAdd, Int.reduceSub, Int.reduceNeg, Int.reduceToNat, Int.reducePow, Nat.reducePow, Int.reduceMul, Int.reduceDiv, ↓s_model_Model_Len, mp_some, h1, hlen]
    rfl
  · (repeat (first | exact Fr.refl _ | refine Fr.push ?_ _ | refine Fr.set ?_ _ _ (by intro h; first | omega | (simp only [go_sem] at h; omega))))

/-- A slice whose block, if it has one, is new. -/
def New (H : AHeap) (v : Value) : Prop := ∀ b, blockOf v = some b → H.n ≤ b

theorem own_tidied {H H' : AHeap} {v : Value} {l : List Pr} (ho : Own EPr H' T.api_Pair v l) (hs : Still H H') (hn : New H v) {x : Res} (hx : x = some (tidy H (v, H'))) :
    ∃ H'', x = some (v, H'') ∧ Own EPr H'' T.api_Pair v l ∧ Still H H'' ∧ New H v := by
  unfold tidy at hx
  split at hx
  · rename_i hg
    simp only [Bool.and_eq_true] at hg
    refine ⟨H, hx, ?_, Fr.refl _, hn⟩
    rcases ho with h | ⟨_, a, h, _⟩ | ⟨b, o, c, xs, h, _⟩
    · exact .inl h
    · rw [h] at hg; exact absurd hg.1 (by simp [gr])
    · rw [h] at hg; exact absurd hg.1 (by simp [gr])
  · exact ⟨H', hx, ho, hs, hn⟩

theorem q_Pairs (b : Nat) (l : List Pr) (H : AHeap) (r : Mdl H b l) (hl : l.length ≤ 1000000000000) :
    ∃ v' H', CC F.model_Model_Pairs [.pointer (some ⟨b, 0, none⟩)] H = some (v', H') ∧ Own EPr H' T.api_Pair v' l ∧ Still H H' ∧ New H v' := by
  obtain ⟨v, h1, h2, h3, h4⟩ := r
  obtain ⟨v', H', hcl, ho, hs, hn⟩ := q_clone_Pair l v H h3.rd hl
  obtain ⟨H'', h⟩ := own_tidied ho hs hn (d_model_Model_Pairs (.pointer (some ⟨b, 0, none⟩)) H (r := (v', H')) (by simp (disch := first | with_reducible rfl | assumption | omega | rfl | (simp only [go_sem]; first | done | omega)) only [go_sem, ↓reduceIte, reduceCtorEq, Nat.reduceEqDiff, Nat.reduceAdd, Nat.reduceSub, Nat.reduceMul, Nat.reduceDiv, Nat.reduceMod, Nat.reduceLeDiff, Nat.reduceLT, Nat.reduceBEq, Int.reduceEq, Int.reduceBEq, Int.reduceBNe, Int.reduceLT, Int.reduceLE, Int.reduceAdd, Int.reduceSub, Int.reduceNeg, Int.reduceToNat, Int.reducePow, Nat.reducePow, Int.reduceMul, Int.reduceDiv, ↓s_model_Model_Pairs, mp_some, h1, enterK_eq hcl]))
  exact ⟨v', H'', h⟩

theorem q_MCopy (b : Nat) (l : List Pr) (H : AHeap) (r : Mdl H b l) (hl : l.length ≤ 1000000000000) :
    ∃ b' H', CC F.model_Model_Copy [.pointer (some ⟨b, 0, none⟩)] H = some (.pointer (some ⟨b', 0, none⟩), H') ∧ Mdl H' b' l ∧ Still H H' ∧ H.n ≤ b' ∧ (∀ c, MB H' b' c → H.n ≤ c) := by
  obtain ⟨v, h1, h2, h3, h4⟩ := r
  obtain ⟨v5, H2, hcl, ho5, s2, hn5⟩ := q_clone_Pair l v H h3.rd hl
  have n2 : H.n ≤ H2.n := s2.n
  refine ⟨H2.n, H2.push (.cells [v5] T.model_Model true), (d_model_Model_Copy _ H (r := (.pointer (some ⟨H2.n, 0, none⟩), _)) ?_).trans (congrArg some (tidy_mem rfl)), ?_, s2.push _, n2, ?_⟩
  · obtain ⟨a, n, c, hv5⟩ : ∃ a n c, v5 = .slice a n c := by
      rcases ho5 with ⟨_, h⟩ | ⟨_, a, h, _⟩ | ⟨b, o, c, xs, h, _⟩ <;> exact ⟨_, _, _, h⟩
    subst hv5
    simp (disch := first | with_reducible rfl | assumption | omega | rfl | (simp only [go_sem]; first | done | omega)) only [go_sem, ↓reduceIte, reduceCtorEq, Nat.reduceEqDiff, Nat.reduceAdd, Nat.reduceSub, Nat.reduceMul, Nat.reduceDiv, Nat.reduceMod, Nat.reduceLeDiff, Nat.reduceLT, Nat.reduceBEq, Int.reduceEq, Int.reduceBEq, Int.reduceBNe, Int.reduceLT, Int.reduceLE, Int.reduceAdd, Int.reduceSub, Int.reduceNeg, Int.reduceToNat, Int.reducePow, Nat.reducePow, Int.reduceMul, Int.reduceDiv, ↓s_model_Model_Copy, mp_some, h1, enterK_eq hcl]
  · refine ⟨v5, push_f_eq rfl, by simp, ho5.still ((Fr.refl _).push _), fun h => by have := ho5.blk h; omega⟩
  · intro c h
    rcases h with h | ⟨u, hu, hb⟩
    · omega
    · rw [push_f_eq rfl] at hu
      cases hu
      exact hn5 c hb

theorem q_end_none (b : Nat) (i : Int) (H : AHeap) (r : Mdl H b []) : CC F.model_Model_end [.pointer (some ⟨b, 0, none⟩), .int .i64 i] H = some (.tuple #[.agg #[.string (mk []), .string (mk [])], .int .i64 9], H) := by
  obtain ⟨v, h1, h2, h3, h4⟩ := r
  have hlen := h3.rd.lenS
  have hlen : lenS v = some (.int .i64 0) := hlen
  apply pure_of _ (d_model_Model_end _ _ H) rfl
  rotate_left 2
  · simp (disch := first | with_reducible rfl | assumption | omega | rfl | (simp only [go_sem]; first | done | omega)) only [go_sem, ↓reduceIte, reduceCtorEq, Nat.reduceEqDiff, Nat.reduceAdd, Nat.reduceSub, Nat.reduceMul, Nat.reduceDiv, Nat.reduceMod, Nat.reduceLeDiff, Nat.reduceLT, Nat.reduceBEq, Int.reduceEq, Int.reduceBEq, Int.reduceBNe, Int.reduceLT, Int.reduceLE, Int.reduceAdd, Int.reduceSub, Int.reduceNeg, Int.reduceToNat, Int.reducePow, Nat.reducePow, Int.reduceMul, Int.reduceDiv, ↓s_model_Model_end, mp_some, h1, hlen]
    rfl
  · (repeat (first | exact Fr.refl _ | refine Fr.push ?_ _ | refine Fr.set ?_ _ _ (by intro h; first | omega | (simp only [go_sem] at h; omega))))

theorem q_end (b : Nat) (l : List Pr) (i : Nat) (hi : i < l.length) (H : AHeap) (r : Mdl H b l) : CC F.model_Model_end [.pointer (some ⟨b, 0, none⟩), .int .i64 (i : Int)] H = some (.tuple #[.agg #[.string l[i].key, .string l[i].value], .int .i64 0], H) := by
  obtain ⟨v, h1, h2, h3, h4⟩ := r
  have hlen := h3.rd.lenS
  have hne : ¬ (l.length : Int) = 0 := by omega
  obtain ⟨bb, o, hix, hb, hcc, _⟩ := h3.rd.ix (q := .i64) hi
  have hix : ixS 2 v (.int .i64 i) = some (.pointer (some ⟨bb, o, none⟩)) := hix
  have hcc : cutB (H.f bb) o 2 = some [.string l[i].key, .string l[i].value] := hcc
  apply pure_of _ (d_model_Model_end _ _ H) rfl
  rotate_left 2
  · simp (disch := first | with_reducible rfl | assumption | omega | rfl | (simp only [go_sem]; first | done | omega)) only [go_sem, ↓reduceIte, reduceCtorEq, Nat.reduceEqDiff, Nat.reduceAdd, Nat.reduceSub, Nat.reduceMul, Nat.reduceDiv, Nat.reduceMod, Nat.reduceLeDiff, Nat.reduceLT, Nat.reduceBEq, Int.reduceEq, Int.reduceBEq, Int.reduceBNe, Int.reduceLT, Int.reduceLE, Int.reduceAdd, Int.reduceSub, Int.reduceNeg, Int.reduceToNat, Int.reducePow, Nat.reducePow, Int.reduceMul, Int.reduceDiv, ↓s_model_Model_end, mp_some, h1, hlen, hne, hix, hcc]
    rfl
  · (repeat (first | exact Fr.refl _ | refine Fr.push ?_ _ | refine Fr.set ?_ _ _ (by intro h; first | omega | (simp only [go_sem] at h; omega))))

/-- The first pair, the last pair. -/
def endV (a : Option Pr) : Value := match a with | some a => .tuple #[.agg #[.string a.key, .string a.value], .int .i64 0] | none => .tuple #[.agg #[.string (mk []), .string (mk [])], .int .i64 9]

theorem q_Min (b : Nat) (l : List Pr) (H : AHeap) (r : Mdl H b l) : CC F.model_Model_Min [.pointer (some ⟨b, 0, none⟩)] H = some (endV l.head?, H) := by
  have s1 : Still H (H.push (.cells [.string (mk []), .string (mk [])] T.api_Pair true)) := (Fr.refl H).push _
  have r1 := r.still s1
  cases l with
  | nil =>
    have he := q_end_none b 0 _ r1
    apply pure_of _ (d_model_Model_Min _ H) rfl
    rotate_left 2
    · simp (disch := first | with_reducible rfl | assumption | omega | rfl | (simp only [go_sem]; first | done | omega)) only [go_sem, ↓reduceIte, reduceCtorEq, Nat.reduceEqDiff, Nat.reduceAdd, Nat.reduceSub, Nat.reduceMul, Nat.reduceDiv, Nat.reduceMod, Nat.reduceLeDiff, Nat.reduceLT, Nat.reduceBEq, Int.reduceEq, Int.reduceBEq, Int.reduceBNe, Int.reduceLT, Int.reduceLE, Int.reduceAdd, Int.reduceSub, Int.reduceNeg, Int.reduceToNat, Int.reducePow, Nat.reducePow, Int.reduceMul, Int.reduceDiv, ↓s_model_Model_Min, enterK_eq he]
      rfl
    · (repeat (first | exact Fr.refl _ | refine Fr.push ?_ _ | refine Fr.set ?_ _ _ (by intro h; first | omega | (simp only [go_sem] at h; omega))))
  | cons a l =>
    have he := q_end b (a :: l) 0 (by simp) _ r1
    have he : CC F.model_Model_end [.pointer (some ⟨b, 0, none⟩), .int .i64 0] (H.push (.cells [.string (mk []), .string (mk [])] T.api_Pair true)) = some (.tuple #[.agg #[.string a.key, .string a.value], .int .i64 0], _) := he
    apply pure_of _ (d_model_Model_Min _ H) rfl
    rotate_left 2
    · simp (disch := first | with_reducible rfl | assumption | omega | rfl | (simp only [go_sem]; first | done | omega)) only [go_sem, ↓reduceIte, reduceCtorEq, Nat.reduceEqDiff, Nat.reduceAdd, Nat.reduceSub, Nat.reduceMul, Nat.reduceDiv, Nat.reduceMod, Nat.reduceLeDiff, Nat.reduceLT, Nat.reduceBEq, Int.reduceEq, Int.reduceBEq, Int.reduceBNe, Int.reduceLT, Int.reduceLE, Int.reduceAdd, Int.reduceSub, Int.reduceNeg, Int.reduceToNat, Int.reducePow, Nat.reducePow, Int.reduceMul, Int.reduceDiv, ↓s_model_Model_Min, enterK_eq he]
      rfl
    · (repeat (first | exact Fr.refl _ | refine Fr.push ?_ _ | refine Fr.set ?_ _ _ (by intro h; first | omega | (simp only [go_sem] at h; omega))))

theorem q_Max (b : Nat) (l : List Pr) (hl : l.length ≤ 1000000000000) (H : AHeap) (r : Mdl H b l) : CC F.model_Model_Max [.pointer (some ⟨b, 0, none⟩)] H = some (endV l.getLast?, H) := by
  have s1 : Still H (H.push (.cells [.string (mk []), .string (mk [])] T.api_Pair true)) := (Fr.refl H).push _
  have r1 := r.still s1
  have hlen := q_Len b l _ r1
  by_cases h0 : l = []
  · subst h0
    have he := q_end_none b (-1) _ r1
    have hlen : CC F.model_Model_Len [.pointer (some ⟨b, 0, none⟩)] (H.push (.cells [.string (mk []), .string (mk [])] T.api_Pair true)) = some (.int .i64 0, _) := hlen
    apply pure_of _ (d_model_Model_Max _ H) rfl
    rotate_left 2
    · simp (disch := first | with_reducible rfl | assumption | omega | rfl | (simp only [go_sem]; first | done | omega)) only [go_sem, ↓reduceIte, reduceCtorEq, Nat.reduceEqDiff, Nat.reduceAdd, Nat.reduceSub, Nat.reduceMul, Nat.reduceDiv, Nat.reduceMod, Nat.reduceLeDiff, Nat.reduceLT, Nat.reduceBEq, Int.reduceEq, Int.reduceBEq, Int.reduceBNe, Int.reduceLT, Int.reduceLE, Int.reduceAdd, Int.reduceSub, Int.reduceNeg, Int.reduceToNat, Int.reducePow, Nat.reducePow, Int.reduceMul, Int.reduceDiv, ↓s_model_Model_Max, enterK_eq hlen, enterK_eq he]
      rfl
    · (repeat (first | exact Fr.refl _ | refine Fr.push ?_ _ | refine Fr.set ?_ _ _ (by intro h; first | omega | (simp only [go_sem] at h; omega))))
  · have hpos : 0 < l.length := List.length_pos_iff.2 h0
    have he := q_end b l (l.length - 1) (by omega) _ r1
    have hi : ((l.length - 1 : Nat) : Int) = (l.length : Int) - 1 := by omega
    rw [hi] at he
    have hg : l.getLast? = some (l[l.length - 1]'(by omega)) := by rw [List.getLast?_eq_getElem?, List.getElem?_eq_getElem]
    rw [hg]
    apply pure_of _ (d_model_Model_Max _ H) rfl
    rotate_left 2
    · simp (disch := first | with_reducible rfl | assumption | omega | rfl | (simp only [go_sem]; first | done | omega)) only [go_sem, ↓reduceIte, reduceCtorEq, Nat.reduceEqDiff, Nat.reduceAdd, Nat.reduceSub, Nat.reduceMul, Nat.reduceDiv, Nat.reduceMod, Nat.reduceLeDiff, Nat.reduceLT, Nat.reduceBEq, Int.reduceEq, Int.reduceBEq, Int.reduceBNe, Int.reduceLT, Int.reduceLE, Int.reduceAdd, Int.reduceSub, Int.reduceNeg, Int.reduceToNat, Int.reducePow, Nat.reducePow, Int.reduceMul, Int.reduceDiv, ↓s_model_Model_Max, enterK_eq hlen, enterK_eq he]
      rfl
    · (repeat (first | exact Fr.refl _ | refine Fr.push ?_ _ | refine Fr.set ?_ _ _ (by intro h; first | omega | (simp only [go_sem] at h; omega))))

end Go.Proofs.Ytlagijfkkpbbnaa

/-
  The order of strings.
  Conditions: none. By an AI agent.
-/
set_option maxRecDepth 10000
set_option linter.unusedSimpArgs false
set_option linter.unusedVariables false
namespace Go.Proofs.Ytlagijfkkpbbnaa
open Go Eng

theorem u8_lt {a b : UInt8} : a < b ↔ a.toNat < b.toNat := UInt8.lt_iff_toNat_lt
theorem u8_eq {a b : UInt8} : a = b ↔ a.toNat = b.toNat := UInt8.toNat_inj.symm

theorem cb_eq : ∀ {a b : List UInt8}, Lib.compareBytes a b = 0 ↔ a = b
  | [], [] => by simp [Lib.compareBytes]
  | [], _ :: _ => by simp [Lib.compareBytes]
  | _ :: _, [] => by simp [Lib.compareBytes]
  | a :: x, b :: y => by
    unfold Lib.compareBytes
    by_cases h1 : a < b
    · have := u8_lt.1 h1
      simp only [if_pos h1]
      constructor
      · intro h; cases h
      · intro h; cases h; omega
    · by_cases h2 : b < a
      · have := u8_lt.1 h2
        simp only [if_neg h1, if_pos h2]
        constructor
        · intro h; cases h
        · intro h; cases h; omega
      · have h3 : a = b := u8_eq.2 (by rw [u8_lt] at h1 h2; omega)
        subst h3
        simp only [if_neg h1]
        rw [cb_eq]
        simp
theorem cb_lt : ∀ {a b : List UInt8}, Op.bytesLess a b = true ↔ Lib.compareBytes a b < 0
  | [], [] => by simp [Lib.compareBytes, Op.bytesLess]
  | [], _ :: _ => by simp [Lib.compareBytes, Op.bytesLess]
  | _ :: _, [] => by simp [Lib.compareBytes, Op.bytesLess]
  | a :: x, b :: y => by
    unfold Lib.compareBytes
    rw [Op.bytesLess, Bool.or_eq_true, Bool.and_eq_true, cb_lt]
    by_cases h1 : a < b
    · simp [h1]
    · by_cases h2 : b < a
      · have h3 : ¬ a = b := fun h => by subst h; exact h1 h2
        simp [h1, h2, h3]
      · have h3 : a = b := u8_eq.2 (by rw [u8_lt] at h1 h2; omega)
        subst h3
        simp [h1]
theorem cb_swap : ∀ {a b : List UInt8}, Lib.compareBytes b a = - Lib.compareBytes a b
  | [], [] => by simp [Lib.compareBytes]
  | [], _ :: _ => by simp [Lib.compareBytes]
  | _ :: _, [] => by simp [Lib.compareBytes]
  | a :: x, b :: y => by
    unfold Lib.compareBytes
    by_cases h1 : a < b
    · have h2 : ¬ b < a := by rw [u8_lt] at h1 ⊢; omega
      simp [h1, h2]
    · by_cases h2 : b < a
      · simp [h1, h2]
      · simp only [if_neg h1, if_neg h2]
        exact cb_swap
theorem cb_trans : ∀ {a b c : List UInt8}, Lib.compareBytes a b < 0 → Lib.compareBytes b c < 0 → Lib.compareBytes a c < 0
  | _, b, [], _, h => by cases b <;> simp [Lib.compareBytes] at h
  | a, [], _ :: _, h, _ => by cases a <;> simp [Lib.compareBytes] at h
  | [], _ :: _, _ :: _, _, _ => by simp [Lib.compareBytes]
  | a :: x, b :: y, c :: z, h1, h2 => by
    rw [Lib.compareBytes] at h1 h2 ⊢
    by_cases p : a < b
    · by_cases q : b < c
      · have : a < c := by rw [u8_lt] at p q ⊢; omega
        rw [if_pos this]; decide
      · rw [if_neg q] at h2
        by_cases q' : c < b
        · rw [if_pos q'] at h2; cases h2
        · have : a < c := by rw [u8_lt] at p q q' ⊢; omega
          rw [if_pos this]; decide
    · rw [if_neg p] at h1
      by_cases p' : b < a
      · rw [if_pos p'] at h1; cases h1
      · rw [if_neg p'] at h1
        have e : a = b := u8_eq.2 (by rw [u8_lt] at p p'; omega)
        subst e
        by_cases q : a < c
        · rw [if_pos q]; decide
        · rw [if_neg q] at h2 ⊢
          by_cases q' : c < a
          · rw [if_pos q'] at h2; cases h2
          · rw [if_neg q'] at h2 ⊢
            exact cb_trans h1 h2

theorem cmpS_self (a : ByteArray) : cmpS a a = 0 := cb_eq.2 rfl
theorem bl_inj {a b : ByteArray} (h : bl a = bl b) : a = b := by
  cases a; cases b; unfold bl at h
  congr 1
  exact Array.toList_inj.1 h
theorem cmpS_eq {a b : ByteArray} : cmpS a b = 0 ↔ a = b := ⟨fun h => bl_inj (cb_eq.1 h), fun h => by subst h; exact cmpS_self a⟩
theorem cmpS_swap (a b : ByteArray) : cmpS b a = - cmpS a b := cb_swap
theorem cmpS_trans {a b c : ByteArray} : cmpS a b < 0 → cmpS b c < 0 → cmpS a c < 0 := cb_trans
theorem less_cmpS (a b : ByteArray) : Op.bytesLess (bl a) (bl b) = decide (cmpS a b < 0) := by
  rw [Bool.eq_iff_iff, cb_lt, decide_eq_true_iff]; rfl
theorem leq_cmpS (a b : ByteArray) : (Op.bytesLess (bl a) (bl b) || bl a == bl b) = decide (cmpS a b ≤ 0) := by
  rw [Bool.eq_iff_iff, Bool.or_eq_true, cb_lt, decide_eq_true_iff, beq_iff_eq, ← cb_eq]
  show (cmpS a b < 0 ∨ cmpS a b = 0) ↔ _
  omega

end Go.Proofs.Ytlagijfkkpbbnaa

/-
  The plain map: Range, Equal, Of.
  Conditions: none. By an AI agent.
-/
set_option maxRecDepth 10000
set_option linter.unusedSimpArgs false
set_option linter.unusedVariables false
namespace Go.Proofs.Ytlagijfkkpbbnaa
open Go Eng

/-- A part in the middle that is only read. -/
theorem Own.mid {α : Type} {E : Enc α} {H : AHeap} {e : TypeId} {v : Value} {l : List α} (r : Own E H e v l) {sz : Nat} (hsz : sz = E.w) {i j : Nat} (hi : i ≤ j) (hj : j ≤ l.length) {q q' : IntKind} :
    ∃ v', slS e sz v (some (.int q (i : Int))) (some (.int q' (j : Int))) none H = some v' ∧ Rd E H v' ((l.drop i).take (j - i)) := by
  subst hsz
  rcases r with ⟨rfl, rfl⟩ | ⟨rfl, ⟨b, o, s⟩, rfl, hs, hbb⟩ | ⟨b, o, c, xs, rfl, hl, hbn, hf, ho, hx⟩
  · simp only [List.length_nil, Nat.le_zero_eq] at hj
    subst hj
    simp only [Nat.le_zero_eq] at hi
    subst hi
    exact ⟨.slice none 0 0, rfl, .inl ⟨by simp, rfl⟩⟩
  · simp only at hs
    subst hs
    simp only [List.length_nil, Nat.le_zero_eq] at hj
    subst hj
    simp only [Nat.le_zero_eq] at hi
    subst hi
    exact ⟨.slice (some ⟨b, o, none⟩) 0 0, by simp [slS, lowOf, highOf, bnd], .inr (.inl ⟨by simp, _, _, rfl, rfl⟩)⟩
  · have hmul := Nat.mul_le_mul_right E.w hl
    have hmj := Nat.mul_le_mul_right E.w hj
    have hmi := Nat.mul_le_mul_right E.w hi
    refine ⟨_, sl_lohi hf hi (Nat.le_trans hj hl), ?_⟩
    have hlen : ((l.drop i).take (j - i)).length = j - i := by simp; omega
    by_cases h0 : j - i = 0
    · rw [h0]; exact .inr (.inl ⟨by simp, _, _, rfl, rfl⟩)
    · refine .inr (.inr ⟨b, _, _, by rw [hlen], fun h => h0 (by rw [← hlen, h]; rfl), hbn, ?_⟩)
      have hsub : (j - i) * E.w = j * E.w - i * E.w := Nat.sub_mul _ _ _
      rw [hlen, hf, cutB_c (by omega), ← E.cells_take, ← E.cells_drop, ← hx, List.drop_take, List.take_take, List.drop_drop, Nat.min_eq_left (by omega)]

theorem q_Range_arg (b : Nat) (sf st : ByteArray) (n : Int) (H : AHeap) (h : n < 1 ∨ 32 < n) :
    CC F.model_Model_Range [.pointer (some ⟨b, 0, none⟩), .string sf, .string st, .int .i64 n] H = some (.tuple #[.slice none 0 0, .int .i64 2], H) := by
  by_cases h1 : n < 1
  · apply pure_of _ (d_model_Model_Range _ _ _ _ H) rfl
    rotate_left 2
    · simp (disch := first | with_reducible rfl | assumption | omega | rfl | (simp only [go_sem]; first | done | omega)) only [go_sem, ↓reduceIte, reduceCtorEq, Nat.reduceEqDiff, Nat.reduceAdd, Nat.reduceSub, Nat.reduceMul, Nat.reduceDiv, Nat.reduceMod, Nat.reduceLeDiff, Nat.reduceLT, Nat.reduceBEq, Int.reduceEq, Int.reduceBEq, Int.reduceBNe, Int.reduceLT, Int.reduceLE, Int.reduceAdd, Int.reduceSub, Int.reduceNeg, Int.reduceToNat, Int.reducePow, Nat.reducePow, Int.reduceMul, Int.reduceDiv, ↓s_model_Model_Range, mp_some, decide_eq_true h1]
      rfl
    · (repeat (first | exact Fr.refl _ | refine Fr.push ?_ _ | refine Fr.set ?_ _ _ (by intro h; first | omega | (simp only [go_sem] at h; omega))))
  · have h2 : 32 < n := by omega
    apply pure_of _ (d_model_Model_Range _ _ _ _ H) rfl
    rotate_left 2
    · simp (disch := first | with_reducible rfl | assumption | omega | rfl | (simp only [go_sem]; first | done | omega)) only [go_sem, ↓reduceIte, reduceCtorEq, Nat.reduceEqDiff, Nat.reduceAdd, Nat.reduceSub, Nat.reduceMul, Nat.reduceDiv, Nat.reduceMod, Nat.reduceLeDiff, Nat.reduceLT, Nat.reduceBEq, Int.reduceEq, Int.reduceBEq, Int.reduceBNe, Int.reduceLT, Int.reduceLE, Int.reduceAdd, Int.reduceSub, Int.reduceNeg, Int.reduceToNat, Int.reducePow, Nat.reducePow, Int.reduceMul, Int.reduceDiv, ↓s_model_Model_Range, mp_some, decide_eq_false h1, decide_eq_true h2]
      rfl
    · (repeat (first | exact Fr.refl _ | refine Fr.push ?_ _ | refine Fr.set ?_ _ _ (by intro h; first | omega | (simp only [go_sem] at h; omega))))
theorem q_Range_long (b : Nat) (sf st : ByteArray) (n : Int) (H : AHeap) (hn1 : ¬ n < 1) (hn2 : ¬ 32 < n) (h : 24 < ((bl sf).length : Int) ∨ 24 < ((bl st).length : Int)) :
    CC F.model_Model_Range [.pointer (some ⟨b, 0, none⟩), .string sf, .string st, .int .i64 n] H = some (.tuple #[.slice none 0 0, .int .i64 5], H) := by
  by_cases h1 : 24 < ((bl sf).length : Int)
  · apply pure_of _ (d_model_Model_Range _ _ _ _ H) rfl
    rotate_left 2
    · simp (disch := first | with_reducible rfl | assumption | omega | rfl | (simp only [go_sem]; first | done | omega)) only [go_sem, ↓reduceIte, reduceCtorEq, Nat.reduceEqDiff, Nat.reduceAdd, Nat.reduceSub, Nat.reduceMul, Nat.reduceDiv, Nat.reduceMod, Nat.reduceLeDiff, Nat.reduceLT, Nat.reduceBEq, Int.reduceEq, Int.reduceBEq, Int.reduceBNe, Int.reduceLT, Int.reduceLE, Int.reduceAdd, Int.reduceSub, Int.reduceNeg, Int.reduceToNat, Int.reducePow, Nat.reducePow, Int.reduceMul, Int.reduceDiv, ↓s_model_Model_Range, mp_some, decide_eq_false hn1, decide_eq_false hn2, decide_eq_true h1]
      rfl
    · (repeat (first | exact Fr.refl _ | refine Fr.push ?_ _ | refine Fr.set ?_ _ _ (by intro h; first | omega | (simp only [go_sem] at h; omega))))
  · have h2 : 24 < ((bl st).length : Int) := by omega
    apply pure_of _ (d_model_Model_Range _ _ _ _ H) rfl
    rotate_left 2
    · simp (disch := first | with_reducible rfl | assumption | omega | rfl | (simp only [go_sem]; first | done | omega)) only [go_sem, ↓reduceIte, reduceCtorEq, Nat.reduceEqDiff, Nat.reduceAdd, Nat.reduceSub, Nat.reduceMul, Nat.reduceDiv, Nat.reduceMod, Nat.reduceLeDiff, Nat.reduceLT, Nat.reduceBEq, Int.reduceEq, Int.reduceBEq, Int.reduceBNe, Int.reduceLT, Int.reduceLE, Int.reduceAdd, Int.reduceSub, Int.reduceNeg, Int.reduceToNat, Int.reducePow, Nat.reducePow, Int.reduceMul, Int.reduceDiv, ↓s_model_Model_Range, mp_some, decide_eq_false hn1, decide_eq_false hn2, decide_eq_false h1, decide_eq_true h2]
      rfl
    · (repeat (first | exact Fr.refl _ | refine Fr.push ?_ _ | refine Fr.set ?_ _ _ (by intro h; first | omega | (simp only [go_sem] at h; omega))))

/-- The same where the value stands in a tuple behind a number. -/
theorem own_tidied2 {H H' : AHeap} {v : Value} {l : List Pr} {n : Int} (ho : Own EPr H' T.api_Pair v l) (hs : Still H H') (hn : New H v) {x : Res} (hx : x = some (tidy H (.tuple #[v, .int .i64 n], H'))) :
    ∃ H'', x = some (.tuple #[v, .int .i64 n], H'') ∧ Own EPr H'' T.api_Pair v l ∧ Still H H'' := by
  unfold tidy at hx
  split at hx
  · rename_i hg
    simp only [Bool.and_eq_true] at hg
    refine ⟨H, hx, ?_, Fr.refl _⟩
    rcases ho with h | ⟨_, a, h, _⟩ | ⟨b, o, c, xs, h, _⟩
    · exact .inl h
    · rw [h] at hg; exact absurd hg.1 (by simp [gr])
    · rw [h] at hg; exact absurd hg.1 (by simp [gr])
  · exact ⟨H', hx, ho, hs⟩

/-- What Range answers. -/
def rangeP (l : List Pr) (p q n : Nat) : List Pr := (l.drop p).take (min q (p + n) - p)

theorem q_Range (b : Nat) (l : List Pr) (sf st : ByteArray) (n : Nat) (H : AHeap) (r : Mdl H b l) (hl : l.length ≤ 20000) (p q : Nat) (hp : PosP l sf p) (hq : (bl st = [] ∧ q = l.length) ∨ (¬ bl st = [] ∧ PosP l st q))
    (hn1 : 1 ≤ n) (hn2 : n ≤ 32) (h1 : ¬ 24 < ((bl sf).length : Int)) (h2 : ¬ 24 < ((bl st).length : Int)) :
    ∃ v' H', CC F.model_Model_Range [.pointer (some ⟨b, 0, none⟩), .string sf, .string st, .int .i64 (n : Int)] H = some (.tuple #[v', .int .i64 0], H') ∧ Own EPr H' T.api_Pair v' (rangeP l p q n) ∧ Still H H' := by
  have hn1' : ¬ (n : Int) < 1 := by omega
  have hn2' : ¬ (32 : Int) < (n : Int) := by omega
  have hpf := q_place b l sf H r (by omega) p hp
  have hql : q ≤ l.length := by rcases hq with h | h; · omega
                                · exact h.2.1
  obtain ⟨v, g1, g2, g3, g4⟩ := id r
  have hlen := g3.rd.lenS
  by_cases hle : q ≤ p
  · have hd : decide ((q : Int) ≤ (p : Int)) = true := decide_eq_true (by omega)
    have e : rangeP l p q n = [] := by unfold rangeP; rw [show min q (p + n) - p = 0 by omega, List.take_zero]
    rw [e]
    refine ⟨.slice none 0 0, H, ?_, .inl ⟨rfl, rfl⟩, Fr.refl H⟩
    rcases hq with ⟨h3, rfl⟩ | ⟨h3, hq⟩
    · apply pure_of _ (d_model_Model_Range _ _ _ _ H) rfl
      rotate_left 2
      · simp (disch := first | with_reducible rfl | assumption | omega | rfl | (simp only [go_sem]; first | done | omega)) only [go_sem, ↓reduceIte, reduceCtorEq, Nat.reduceEqDiff, Nat.reduceAdd, Nat.reduceSub, Nat.reduceMul, Nat.reduceDiv, Nat.reduceMod, Nat.reduceLeDiff, Nat.reduceLT, Nat.reduceBEq, Int.reduceEq, Int.reduceBEq, Int.reduceBNe, Int.reduceLT, Int.reduceLE, Int.reduceAdd, Int.reduceSub, Int.reduceNeg, Int.reduceToNat, Int.reducePow, Nat.reducePow, Int.reduceMul, Int.reduceDiv, ↓s_model_Model_Range, mp_some, decide_eq_false hn1', decide_eq_false hn2', decide_eq_false h1, decide_eq_false h2, enterK_eq hpf, g1, hlen, bl_mk, decide_eq_true h3, hd]
        rfl
      · (repeat (first | exact Fr.refl _ | refine Fr.push ?_ _ | refine Fr.set ?_ _ _ (by intro h; first | omega | (simp only [go_sem] at h; omega))))
    · have hpt := q_place b l st H r (by omega) q hq
      apply pure_of _ (d_model_Model_Range _ _ _ _ H) rfl
      rotate_left 2
      · simp (disch := first | with_reducible rfl | assumption | omega | rfl | (simp only [go_sem]; first | done | omega)) only [go_sem, ↓reduceIte, reduceCtorEq, Nat.reduceEqDiff, Nat.reduceAdd, Nat.reduceSub, Nat.reduceMul, Nat.reduceDiv, Nat.reduceMod, Nat.reduceLeDiff, Nat.reduceLT, Nat.reduceBEq, Int.reduceEq, Int.reduceBEq, Int.reduceBNe, Int.reduceLT, Int.reduceLE, Int.reduceAdd, Int.reduceSub, Int.reduceNeg, Int.reduceToNat, Int.reducePow, Nat.reducePow, Int.reduceMul, Int.reduceDiv, ↓s_model_Model_Range, mp_some, decide_eq_false hn1', decide_eq_false hn2', decide_eq_false h1, decide_eq_false h2, enterK_eq hpf, enterK_eq hpt, g1, hlen, bl_mk, decide_eq_false h3, hd]
        rfl
      · (repeat (first | exact Fr.refl _ | refine Fr.push ?_ _ | refine Fr.set ?_ _ _ (by intro h; first | omega | (simp only [go_sem] at h; omega))))
  · have hd : decide ((q : Int) ≤ (p : Int)) = false := decide_eq_false (by omega)
    have hm : min (q : Int) ((p : Int) + (n : Int)) = ((min q (p + n) : Nat) : Int) := by omega
    obtain ⟨v1, hs1, hr1⟩ := Own.mid g3 (sz := 2) rfl (i := p) (j := min q (p + n)) (by omega) (by omega) (q := .i64) (q' := .i64)
    obtain ⟨v', H', hcl, ho, hs, hn⟩ := q_clone_Pair _ v1 H hr1 (by simp; omega)
    rcases hq with ⟨h3, rfl⟩ | ⟨h3, hq⟩
    · obtain ⟨H'', hx⟩ := own_tidied2 (n := 0) ho hs hn (d_model_Model_Range (.pointer (some ⟨b, 0, none⟩)) (.string sf) (.string st) (.int .i64 (n : Int)) H (r := (.tuple #[v', .int .i64 0], H')) (by
        simp (disch := first | with_reducible rfl | assumption | omega | rfl | (simp only [go_sem]; first | done | omega)) only [go_sem, ↓reduceIte, reduceCtorEq, Nat.reduceEqDiff, Nat.reduceAdd, Nat.reduceSub, Nat.reduceMul, Nat.reduceDiv, Nat.reduceMod, Nat.reduceLeDiff, Nat.reduceLT, Nat.reduceBEq, Int.reduceEq, Int.reduceBEq, Int.reduceBNe, Int.reduceLT, Int.reduceLE, Int.reduceAdd, Int.reduceSub, Int.reduceNeg, Int.reduceToNat, Int.reducePow, Nat.reducePow, Int.reduceMul, Int.reduceDiv, ↓s_model_Model_Range, mp_some, decide_eq_false hn1', decide_eq_false hn2', decide_eq_false h1, decide_eq_false h2, enterK_eq hpf, g1, hlen, bl_mk, decide_eq_true h3, hd, hm, hs1, enterK_eq hcl]))
      exact ⟨v', H'', hx⟩
    · have hpt := q_place b l st H r (by omega) q hq
      obtain ⟨H'', hx⟩ := own_tidied2 (n := 0) ho hs hn (d_model_Model_Range (.pointer (some ⟨b, 0, none⟩)) (.string sf) (.string st) (.int .i64 (n : Int)) H (r := (.tuple #[v', .int .i64 0], H')) (by
        simp (disch := first | with_reducible rfl | assumption | omega | rfl | (simp only [go_sem]; first | done | omega)) only [go_sem, ↓reduceIte, reduceCtorEq, Nat.reduceEqDiff, Nat.reduceAdd, Nat.reduceSub, Nat.reduceMul, Nat.reduceDiv, Nat.reduceMod, Nat.reduceLeDiff, Nat.reduceLT, Nat.reduceBEq, Int.reduceEq, Int.reduceBEq, Int.reduceBNe, Int.reduceLT, Int.reduceLE, Int.reduceAdd, Int.reduceSub, Int.reduceNeg, Int.reduceToNat, Int.reducePow, Nat.reducePow, Int.reduceMul, Int.reduceDiv, ↓s_model_Model_Range, mp_some, decide_eq_false hn1', decide_eq_false hn2', decide_eq_false h1, decide_eq_false h2, enterK_eq hpf, enterK_eq hpt, g1, hlen, bl_mk, decide_eq_false h3, hd, hm, hs1, enterK_eq hcl]))
      exact ⟨v', H'', hx⟩

end Go.Proofs.Ytlagijfkkpbbnaa

/-
  The plain map: Equal, Of.
  Conditions: none. By an AI agent.
-/
set_option maxRecDepth 10000
set_option linter.unusedSimpArgs false
set_option linter.unusedVariables false
namespace Go.Proofs.Ytlagijfkkpbbnaa
open Go Eng

instance : DecidableEq Pr := fun a b => decidable_of_iff (bl a.key = bl b.key ∧ bl a.value = bl b.value) pr_ext.symm
theorem pair_ne' {ox oy : Operand} {a b : Pr} : xbin Try.prog .neq T.api_Pair ox oy (.agg #[.string a.key, .string a.value]) (.agg #[.string b.key, .string b.value]) = some (.bool (!decide (a = b))) := by
  rw [pair_ne, ← Bool.decide_and, decide_eq_decide.2 pr_ext]
theorem pair_eq' {ox oy : Operand} {a b : Pr} : xbin Try.prog .eql T.api_Pair ox oy (.agg #[.string a.key, .string a.value]) (.agg #[.string b.key, .string b.value]) = some (.bool (decide (a = b))) := by
  rw [pair_eq, ← Bool.decide_and, decide_eq_decide.2 pr_ext]

theorem drop_cons {α : Type} {l x : List α} {a : α} {i : Nat} (h : l.drop i = a :: x) : ∃ hi : i < l.length, l[i] = a ∧ l.drop (i + 1) = x := by
  have hi : i < l.length := by
    rcases Nat.lt_or_ge i l.length with h' | h'
    · exact h'
    · rw [List.drop_eq_nil_of_le h'] at h; cases h
  rw [List.drop_eq_getElem_cons hi] at h
  exact ⟨hi, (List.cons.inj h).1, (List.cons.inj h).2⟩

theorem l_eqP (l m : List Pr) (v w : Value) (H : AHeap) (hv : Rd EPr H v l) (hw : Rd EPr H w m) (hlm : l.length = m.length) (hl : l.length < 1152921504606846976) (K : K) : ∀ (x y : List Pr) (i : Nat), l.drop i = x → m.drop i = y →
    l_slices_Equal_Pair_0 v w (.int .i64 l.length) (.int .i64 i) H (blkK [] 0 (seqK (fun _ h2 => K .ret [(4, .bool true)] h2) K)) = K .ret [(4, .bool (decide (x = y)))] H
  | [], y, i, hx, hy => by
    have h : l.length ≤ i := List.drop_eq_nil_iff.1 hx
    have hlt : ¬ (i : Int) < (l.length : Int) := by omega
    have hy0 : y = [] := by rw [← hy]; exact List.drop_eq_nil_of_le (by omega)
    subst hy0
    rw [r_slices_Equal_Pair_0]
    simp (disch := first | with_reducible rfl | assumption | omega | rfl | (simp only [go_sem]; first | done | omega)) only [go_sem, ↓reduceIte, reduceCtorEq, Nat.reduceEqDiff, Nat.reduceAdd, Nat.reduceSub, Nat.reduceMul, Nat.reduceDiv, Nat.reduceMod, Nat.reduceLeDiff, Nat.reduceLT, Nat.reduceBEq, Int.reduceEq, Int.reduceBEq, Int.reduceBNe, Int.reduceLT, Int.reduceLE, Int.reduceAdd, Int.reduceSub, Int.reduceNeg, Int.reduceToNat, Int.reducePow, Nat.reducePow, Int.reduceMul, Int.reduceDiv, ↓s_slices_Equal_Pair_b0, hlt]
  | a :: x, [], i, hx, hy => by
    obtain ⟨h, _⟩ := drop_cons hx
    have h2 : m.length ≤ i := List.drop_eq_nil_iff.1 hy
    omega
  | a :: x, b :: y, i, hx, hy => by
    obtain ⟨h, hxa, hx'⟩ := drop_cons hx
    obtain ⟨h2, hyb, hy'⟩ := drop_cons hy
    have hlt : (i : Int) < (l.length : Int) := by omega
    have ih := l_eqP l m v w H hv hw hlm hl K x y (i + 1) hx' hy'
    obtain ⟨b1, o1, hix1, _, hc1, _⟩ := hv.ix (q := .i64) h
    obtain ⟨b2, o2, hix2, _, hc2, _⟩ := hw.ix (q := .i64) h2
    rw [hxa] at hc1
    rw [hyb] at hc2
    have hix1 : ixS 2 v (.int .i64 i) = some (.pointer (some ⟨b1, o1, none⟩)) := hix1
    have hix2 : ixS 2 w (.int .i64 i) = some (.pointer (some ⟨b2, o2, none⟩)) := hix2
    have hc1 : cutB (H.f b1) o1 2 = some [.string a.key, .string a.value] := hc1
    have hc2 : cutB (H.f b2) o2 2 = some [.string b.key, .string b.value] := hc2
    rw [Int.natCast_add] at ih
    rw [r_slices_Equal_Pair_0]
    by_cases he : a = b
    · have hd : decide (a = b) = true := decide_eq_true he
      have hd2 : decide (a :: x = b :: y) = decide (x = y) := decide_eq_decide.2 (by simp [he])
      rw [hd2]
      simp (disch := first | with_reducible rfl | assumption | omega | rfl | (simp only [go_sem]; first | done | omega)) only [go_sem, ↓reduceIte, reduceCtorEq, Nat.reduceEqDiff, Nat.reduceAdd, Nat.reduceSub, Nat.reduceMul, Nat.reduceDiv, Nat.reduceMod, Nat.reduceLeDiff, Nat.reduceLT, Nat.reduceBEq, Int.reduceEq, Int.reduceBEq, Int.reduceBNe, Int.reduceLT, Int.reduceLE, Int.reduceAdd, Int.reduceSub, Int.reduceNeg, Int.reduceToNat, Int.reducePow, Nat.reducePow, Int.reduceMul, Int.reduceDiv, ↓s_slices_Equal_Pair_b0, hlt, hix1, hc1, hix2, hc2, pair_ne', hd]
      exact ih
    · have hd : decide (a = b) = false := decide_eq_false he
      have hd2 : decide (a :: x = b :: y) = false := decide_eq_false (by simp [he])
      rw [hd2]
      simp (disch := first | with_reducible rfl | assumption | omega | rfl | (simp only [go_sem]; first | done | omega)) only [go_sem, ↓reduceIte, reduceCtorEq, Nat.reduceEqDiff, Nat.reduceAdd, Nat.reduceSub, Nat.reduceMul, Nat.reduceDiv, Nat.reduceMod, Nat.reduceLeDiff, Nat.reduceLT, Nat.reduceBEq, Int.reduceEq, Int.reduceBEq, Int.reduceBNe, Int.reduceLT, Int.reduceLE, Int.reduceAdd, Int.reduceSub, Int.reduceNeg, Int.reduceToNat, Int.reducePow, Nat.reducePow, Int.reduceMul, Int.reduceDiv, ↓s_slices_Equal_Pair_b0, hlt, hix1, hc1, hix2, hc2, pair_ne', hd]

theorem q_eqP (l m : List Pr) (v w : Value) (H : AHeap) (hv : Rd EPr H v l) (hw : Rd EPr H w m) (hl : l.length < 1152921504606846976) :
    CC F.slices_Equal_Pair [v, w] H = some (.bool (decide (l = m)), H) := by
  have l1 := hv.lenS
  have l2 := hw.lenS
  by_cases hlm : l.length = m.length
  · have hne : ¬ ¬ (l.length : Int) = (m.length : Int) := by omega
    have hloop := l_eqP l m v w H hv hw hlm hl (endK Try.prog [.tmp 4]) l m 0 rfl rfl
    have hz : Value.int IntKind.i64 0 = Value.int IntKind.i64 ((0 : Nat) : Int) := rfl
    have he : decide ((l.length : Int) = (m.length : Int)) = true := decide_eq_true (by omega)
    apply pure_of _ (d_slices_Equal_Pair _ _ H) rfl
    rotate_left 2
    · simp (disch := first | with_reducible rfl | assumption | omega | rfl | (simp only [go_sem]; first | done | omega)) only [go_sem, ↓reduceIte, reduceCtorEq, Nat.reduceEqDiff, Nat.reduceAdd, Nat.reduceSub, Nat.reduceMul, Nat.reduceDiv, Nat.reduceMod, Nat.reduceLeDiff, Nat.reduceLT, Nat.reduceBEq, Int.reduceEq, Int.reduceBEq, Int.reduceBNe, Int.reduceLT, Int.reduceLE, Int.reduceAdd, Int.reduceSub, Int.reduceNeg, Int.reduceToNat, Int.reducePow, Nat.reducePow, Int.reduceMul, Int.reduceDiv, ↓s_slices_Equal_Pair, l1, l2, he]
      exact hloop
    · (repeat (first | exact Fr.refl _ | refine Fr.push ?_ _ | refine Fr.set ?_ _ _ (by intro h; first | omega | (simp only [go_sem] at h; omega))))
  · have he : decide ((l.length : Int) = (m.length : Int)) = false := decide_eq_false (by omega)
    have hd : decide (l = m) = false := decide_eq_false fun h => hlm (by rw [h])
    rw [hd]
    apply pure_of _ (d_slices_Equal_Pair _ _ H) rfl
    rotate_left 2
    · simp (disch := first | with_reducible rfl | assumption | omega | rfl | (simp only [go_sem]; first | done | omega)) only [go_sem, ↓reduceIte, reduceCtorEq, Nat.reduceEqDiff, Nat.reduceAdd, Nat.reduceSub, Nat.reduceMul, Nat.reduceDiv, Nat.reduceMod, Nat.reduceLeDiff, Nat.reduceLT, Nat.reduceBEq, Int.reduceEq, Int.reduceBEq, Int.reduceBNe, Int.reduceLT, Int.reduceLE, Int.reduceAdd, Int.reduceSub, Int.reduceNeg, Int.reduceToNat, Int.reducePow, Nat.reducePow, Int.reduceMul, Int.reduceDiv, ↓s_slices_Equal_Pair, l1, l2, he]
      rfl
    · (repeat (first | exact Fr.refl _ | refine Fr.push ?_ _ | refine Fr.set ?_ _ _ (by intro h; first | omega | (simp only [go_sem] at h; omega))))

theorem q_Equal (b c : Nat) (l m : List Pr) (H : AHeap) (r : Mdl H b l) (s : Mdl H c m) (hl : l.length ≤ 1000000000000) (hm : m.length ≤ 1000000000000) :
    CC F.model_Equal [.pointer (some ⟨b, 0, none⟩), .pointer (some ⟨c, 0, none⟩)] H = some (.bool (decide (l = m)), H) := by
  have hl1 := q_Len b l H r
  have hl2 := q_Len c m H s
  by_cases hlm : l.length = m.length
  · obtain ⟨v1, H1, hp1, ho1, s1, _⟩ := q_Pairs b l H r hl
    obtain ⟨v2, H2, hp2, ho2, s2, _⟩ := q_Pairs c m H1 (s.still s1) hm
    have he := q_eqP l m v1 v2 H2 (ho1.still s2).rd ho2.rd (by omega)
    have hd : decide ((l.length : Int) = (m.length : Int)) = true := decide_eq_true (by omega)
    apply pure_of _ (d_model_Equal _ _ H) rfl
    rotate_left 2
    · simp (disch := first | with_reducible rfl | assumption | omega | rfl | (simp only [go_sem]; first | done | omega)) only [go_sem, ↓reduceIte, reduceCtorEq, Nat.reduceEqDiff, Nat.reduceAdd, Nat.reduceSub, Nat.reduceMul, Nat.reduceDiv, Nat.reduceMod, Nat.reduceLeDiff, Nat.reduceLT, Nat.reduceBEq, Int.reduceEq, Int.reduceBEq, Int.reduceBNe, Int.reduceLT, Int.reduceLE, Int.reduceAdd, Int.reduceSub, Int.reduceNeg, Int.reduceToNat, Int.reducePow, Nat.reducePow, Int.reduceMul, Int.reduceDiv, ↓s_model_Equal, mp_some, bne_self_eq_false, c_model_Model_Len, enterK_eq hl1, enterK_eq hl2, hd, enterK_eq hp1, enterK_eq hp2, enterK_eq he]
      rfl
    · exact s1.then s2 fun _ _ h => h
  · have hd : decide ((l.length : Int) = (m.length : Int)) = false := decide_eq_false (by omega)
    have hf : decide (l = m) = false := decide_eq_false fun h => hlm (by rw [h])
    rw [hf]
    apply pure_of _ (d_model_Equal _ _ H) rfl
    rotate_left 2
    · simp (disch := first | with_reducible rfl | assumption | omega | rfl | (simp only [go_sem]; first | done | omega)) only [go_sem, ↓reduceIte, reduceCtorEq, Nat.reduceEqDiff, Nat.reduceAdd, Nat.reduceSub, Nat.reduceMul, Nat.reduceDiv, Nat.reduceMod, Nat.reduceLeDiff, Nat.reduceLT, Nat.reduceBEq, Int.reduceEq, Int.reduceBEq, Int.reduceBNe, Int.reduceLT, Int.reduceLE, Int.reduceAdd, Int.reduceSub, Int.reduceNeg, Int.reduceToNat, Int.reducePow, Nat.reducePow, Int.reduceMul, Int.reduceDiv, ↓s_model_Equal, mp_some, bne_self_eq_false, c_model_Model_Len, enterK_eq hl1, enterK_eq hl2, hd]
      rfl
    · (repeat (first | exact Fr.refl _ | refine Fr.push ?_ _ | refine Fr.set ?_ _ _ (by intro h; first | omega | (simp only [go_sem] at h; omega))))

/-! ### Of -/
/-- The error of a list of pairs: of the pairs behind the one before. -/
def ofErr : Option Pr → List Pr → Int
  | _, [] => 0
  | o, a :: l => if chk a.key [a.value] ≠ 0 then chk a.key [a.value] else if (o.elim false fun b => decide (0 ≤ cmpS b.key a.key)) = true then 13 else ofErr (some a) l


theorem l_ofP (l : List Pr) (v : Value) (Hz : AHeap) (hr0 : Rd EPr Hz v l) (hl : l.length < 1152921504606846976) (K : K) : ∀ (x : List Pr) (i : Nat) (H : AHeap) (o : Option Pr), l.drop i = x → Still Hz H → i ≤ l.length → (if i = 0 then none else l[i - 1]?) = o → ∃ H', Still Hz H' ∧
    (l_model_Of_0 v v (.int .i64 l.length) (.int .i64 i) H (blkK [0] 0 K) = if ofErr o x = 0 then K .normal [(0, v)] H' else K .ret [(2, .pointer none), (3, .int .i64 (ofErr o x))] H')
  | [], i, H, o, hx, hs, hi, ho => by
    have h : l.length ≤ i := List.drop_eq_nil_iff.1 hx
    have hlt : ¬ (i : Int) < (l.length : Int) := by omega
    refine ⟨H, hs, ?_⟩
    rw [r_model_Of_0]
    simp only [ofErr, if_true]
    simp (disch := first | with_reducible rfl | assumption | omega | rfl | (simp only [go_sem]; first | done | omega)) only [go_sem, ↓reduceIte, reduceCtorEq, Nat.reduceEqDiff, Nat.reduceAdd, Nat.reduceSub, Nat.reduceMul, Nat.reduceDiv, Nat.reduceMod, Nat.reduceLeDiff, Nat.reduceLT, Nat.reduceBEq, Int.reduceEq, Int.reduceBEq, Int.reduceBNe, Int.reduceLT, Int.reduceLE, Int.reduceAdd, Int.reduceSub, Int.reduceNeg, Int.reduceToNat, Int.reducePow, Nat.reducePow, Int.reduceMul, Int.reduceDiv, ↓s_model_Of_b0, hlt]
  | a :: x, i, H, o, hx, hs, hi, ho => by
    obtain ⟨h, hxa, hx'⟩ := drop_cons hx
    have hlt : (i : Int) < (l.length : Int) := by omega
    obtain ⟨b1, o1, hix1, hb1, hc1, _⟩ := (hr0.still hs).ix (q := .i64) h
    rw [hxa] at hc1
    have hix1 : ixS 2 v (.int .i64 i) = some (.pointer (some ⟨b1, o1, none⟩)) := hix1
    have hc1 : cutB (H.f b1) o1 2 = some [.string a.key, .string a.value] := hc1
    generalize hH1 : (H.push (.cells [.string (mk []), .string (mk [])] T.api_Pair true)).set H.n (.cells [.string a.key, .string a.value] T.api_Pair true) = H1
    have s1 : Still H H1 := by rw [← hH1]; exact Fr.set ((Fr.refl H).push _) _ _ (fun h => by omega)
    have n1 : H1.n = H.n + 1 := by rw [← hH1]; rfl
    have f1 : H1.f H.n = .cells [.string a.key, .string a.value] T.api_Pair true := by rw [← hH1]; exact set_f_eq
    generalize hH2 : H1.push (.cells [.string a.value] T.string true) = H2
    have s2 : Still H1 H2 := by rw [← hH2]; exact (Fr.refl H1).push _
    have hck := q_check a.key [a.value] _ _ (rdOne a.value H1) (by simp)
    rw [hH2] at hck
    have f2 : H2.f H.n = .cells [.string a.key, .string a.value] T.api_Pair true := by rw [s2.f (by omega) (fun h => h), f1]
    have st : Still Hz H2 := (hs.then s1 fun _ _ h => h).still.then s2 fun _ _ h => h
    by_cases hchk : chk a.key [a.value] = 0
    · rw [hchk] at hck
      cases i with
      | zero =>
        have ho' : o = none := by rw [← ho]; rfl
        subst ho'
        obtain ⟨H', hs', ih⟩ := l_ofP l v Hz hr0 hl K x 1 H2 (some a) hx' st (by omega) (by simp [← hxa])
        refine ⟨H', hs', ?_⟩
        have e : ofErr none (a :: x) = ofErr (some a) x := by simp [ofErr, hchk]
        have hlt : (0 : Int) < (l.length : Int) := hlt
        have hix1 : ixS 2 v (.int .i64 0) = some (.pointer (some ⟨b1, o1, none⟩)) := hix1
        rw [e, r_model_Of_0]
        simp (disch := first | with_reducible rfl | assumption | omega | rfl | (simp only [go_sem]; first | done | omega)) only [go_sem, ↓reduceIte, reduceCtorEq, Nat.reduceEqDiff, Nat.reduceAdd, Nat.reduceSub, Nat.reduceMul, Nat.reduceDiv, Nat.reduceMod, Nat.reduceLeDiff, Nat.reduceLT, Nat.reduceBEq, Int.reduceEq, Int.reduceBEq, Int.reduceBNe, Int.reduceLT, Int.reduceLE, Int.reduceAdd, Int.reduceSub, Int.reduceNeg, Int.reduceToNat, Int.reducePow, Nat.reducePow, Int.reduceMul, Int.reduceDiv, ↓s_model_Of_b0, hlt, hix1, hc1, hH1, f1, hH2, enterK_eq hck]
        exact ih
      | succ k =>
        have hk : k < l.length := by omega
        have ho' : o = some l[k] := by rw [← ho]; simp [hk]
        subst ho'
        obtain ⟨b2, o2, hix2, hb2, hc2, _⟩ := (hr0.still hs).ix (q := .i64) hk
        have hix2 : ixS 2 v (.int .i64 k) = some (.pointer (some ⟨b2, o2, none⟩)) := hix2
        have hc2 : cellB (H.f b2) o2 = some (.string l[k].key) := cutB_cell hc2 (i := 0) (by decide)
        have fb2 : H2.f b2 = H.f b2 := by rw [s2.f (by omega) (fun h => h), s1.f hb2 (fun h => h)]
        obtain ⟨H', hs', ih⟩ := l_ofP l v Hz hr0 hl K x (k + 1 + 1) H2 (some a) hx' st (by omega) (by simp [← hxa])
        have hsub : ((k : Int) + 1 - 1) = (k : Int) := by omega
        have hlt : (k : Int) + 1 < (l.length : Int) := by omega
        have hpos : (0 : Int) < (k : Int) + 1 := by omega
        have hix1 : ixS 2 v (.int .i64 ((k : Int) + 1)) = some (.pointer (some ⟨b1, o1, none⟩)) := hix1
        rw [Int.natCast_add, Int.natCast_add] at ih
        by_cases hge : 0 ≤ cmpS l[k].key a.key
        · have hd : decide (0 ≤ cmpS l[k].key a.key) = true := decide_eq_true hge
          have e : ofErr (some l[k]) (a :: x) = 13 := by simp [ofErr, hchk, hge]
          refine ⟨H2, st, ?_⟩
          rw [e, r_model_Of_0, Int.natCast_add]
          simp (disch := first | with_reducible rfl | assumption | omega | rfl | (simp only [go_sem]; first | done | omega)) only [go_sem, ↓reduceIte, reduceCtorEq, Nat.reduceEqDiff, Nat.reduceAdd, Nat.reduceSub, Nat.reduceMul, Nat.reduceDiv, Nat.reduceMod, Nat.reduceLeDiff, Nat.reduceLT, Nat.reduceBEq, Int.reduceEq, Int.reduceBEq, Int.reduceBNe, Int.reduceLT, Int.reduceLE, Int.reduceAdd, Int.reduceSub, Int.reduceNeg, Int.reduceToNat, Int.reducePow, Nat.reducePow, Int.reduceMul, Int.reduceDiv, ↓s_model_Of_b0, hlt, hix1, hc1, hH1, f1, hH2, enterK_eq hck, hpos, hsub, hix2, fb2, hc2, f2, e_KCompare, hd]
        · have hd : decide (0 ≤ cmpS l[k].key a.key) = false := decide_eq_false hge
          have e : ofErr (some l[k]) (a :: x) = ofErr (some a) x := by simp [ofErr, hchk, hge]
          refine ⟨H', hs', ?_⟩
          rw [e, r_model_Of_0, Int.natCast_add]
          simp (disch := first | with_reducible rfl | assumption | omega | rfl | (simp only [go_sem]; first | done | omega)) only [go_sem, ↓reduceIte, reduceCtorEq, Nat.reduceEqDiff, Nat.reduceAdd, Nat.reduceSub, Nat.reduceMul, Nat.reduceDiv, Nat.reduceMod, Nat.reduceLeDiff, Nat.reduceLT, Nat.reduceBEq, Int.reduceEq, Int.reduceBEq, Int.reduceBNe, Int.reduceLT, Int.reduceLE, Int.reduceAdd, Int.reduceSub, Int.reduceNeg, Int.reduceToNat, Int.reducePow, Nat.reducePow, Int.reduceMul, Int.reduceDiv, ↓s_model_Of_b0, hlt, hix1, hc1, hH1, f1, hH2, enterK_eq hck, hpos, hsub, hix2, fb2, hc2, f2, e_KCompare, hd]
          exact ih
    · have e : ofErr o (a :: x) = chk a.key [a.value] := by simp [ofErr, hchk]
      refine ⟨H2, st, ?_⟩
      rw [e, if_neg hchk]
      generalize chk a.key [a.value] = y at hchk hck
      rw [r_model_Of_0]
      simp (disch := first | with_reducible rfl | assumption | omega | rfl | (simp only [go_sem]; first | done | omega)) only [go_sem, ↓reduceIte, reduceCtorEq, Nat.reduceEqDiff, Nat.reduceAdd, Nat.reduceSub, Nat.reduceMul, Nat.reduceDiv, Nat.reduceMod, Nat.reduceLeDiff, Nat.reduceLT, Nat.reduceBEq, Int.reduceEq, Int.reduceBEq, Int.reduceBNe, Int.reduceLT, Int.reduceLE, Int.reduceAdd, Int.reduceSub, Int.reduceNeg, Int.reduceToNat, Int.reducePow, Nat.reducePow, Int.reduceMul, Int.reduceDiv, ↓s_model_Of_b0, hlt, hix1, hc1, hH1, f1, hH2, enterK_eq hck, hchk]

/-- What Of answers. -/
theorem q_Of_err (l : List Pr) (v : Value) (H : AHeap) (hr : Rd EPr H v l) (hl : l.length < 1152921504606846976) (h : ofErr none l ≠ 0) : CC F.model_Of [v] H = some (.tuple #[.pointer none, .int .i64 (ofErr none l)], H) := by
  have hlen := hr.lenS
  obtain ⟨H', hs, hloop⟩ := l_ofP l v H hr hl (seqK (fun tT h2 => bareK (lenS (get tT 0)) h2 fun t39 h3 =>
    bareK (xbin Try.prog .gtr T.int (.tmp 39) (.const (.int .i64 20000)) t39 (.int .i64 20000)) h3 fun t40 h4 =>
    condL t40 (fun k2 => k2 .ret [(2, (.pointer none)), (3, (.int .i64 7))] h4) (fun k2 =>
    k2 .normal [(0, (get tT 0))] h4) (seqK (fun tT_1 h5 =>
    enterK CC F.slices_Clone_Pair [(get tT_1 0)] h5 fun t42 h6 =>
    bareK (bldS #[(.slice none 0 0)] [(0, 1)] [(0, t42)]) h6 fun t43 h7 =>
    bothK (newv T.model_Model t43 h7) fun t44 h8 =>
    endK Try.prog [.tmp 2, .tmp 3] .ret [(2, t44), (3, (.int .i64 0))] h8) (endK Try.prog [.tmp 2, .tmp 3]))) (endK Try.prog [.tmp 2, .tmp 3])) l 0 H none rfl (Fr.refl H) (by omega) rfl
  rw [if_neg h] at hloop
  generalize ofErr none l = e at hloop h
  apply pure_of _ (d_model_Of _ H) rfl
  rotate_left 2
  · simp (disch := first | with_reducible rfl | assumption | omega | rfl | (simp only [go_sem]; first | done | omega)) only [go_sem, ↓reduceIte, reduceCtorEq, Nat.reduceEqDiff, Nat.reduceAdd, Nat.reduceSub, Nat.reduceMul, Nat.reduceDiv, Nat.reduceMod, Nat.reduceLeDiff, Nat.reduceLT, Nat.reduceBEq, Int.reduceEq, Int.reduceBEq, Int.reduceBNe, Int.reduceLT, Int.reduceLE, Int.reduceAdd, Int.reduceSub, Int.reduceNeg, Int.reduceToNat, Int.reducePow, Nat.reducePow, Int.reduceMul, Int.reduceDiv, ↓s_model_Of, hlen]
    exact hloop
  · exact hs

theorem q_Of_full (l : List Pr) (v : Value) (H : AHeap) (hr : Rd EPr H v l) (hl : l.length < 1152921504606846976) (h : ofErr none l = 0) (hf : 20000 < l.length) : CC F.model_Of [v] H = some (.tuple #[.pointer none, .int .i64 7], H) := by
  have hlen := hr.lenS
  have hgt : (20000 : Int) < (l.length : Int) := by omega
  obtain ⟨H', hs, hloop⟩ := l_ofP l v H hr hl (seqK (fun tT h2 => bareK (lenS (get tT 0)) h2 fun t39 h3 =>
    bareK (xbin Try.prog .gtr T.int (.tmp 39) (.const (.int .i64 20000)) t39 (.int .i64 20000)) h3 fun t40 h4 =>
    condL t40 (fun k2 => k2 .ret [(2, (.pointer none)), (3, (.int .i64 7))] h4) (fun k2 =>
    k2 .normal [(0, (get tT 0))] h4) (seqK (fun tT_1 h5 =>
    enterK CC F.slices_Clone_Pair [(get tT_1 0)] h5 fun t42 h6 =>
    bareK (bldS #[(.slice none 0 0)] [(0, 1)] [(0, t42)]) h6 fun t43 h7 =>
    bothK (newv T.model_Model t43 h7) fun t44 h8 =>
    endK Try.prog [.tmp 2, .tmp 3] .ret [(2, t44), (3, (.int .i64 0))] h8) (endK Try.prog [.tmp 2, .tmp 3]))) (endK Try.prog [.tmp 2, .tmp 3])) l 0 H none rfl (Fr.refl H) (by omega) rfl
  rw [if_pos h] at hloop
  apply pure_of _ (d_model_Of _ H) rfl
  rotate_left 2
  · simp (disch := first | with_reducible rfl | assumption | omega | rfl | (simp only [go_sem]; first | done | omega)) only [go_sem, ↓reduceIte, reduceCtorEq, Nat.reduceEqDiff, Nat.reduceAdd, Nat.reduceSub, Nat.reduceMul, Nat.reduceDiv, Nat.reduceMod, Nat.reduceLeDiff, Nat.reduceLT, Nat.reduceBEq, Int.reduceEq, Int.reduceBEq, Int.reduceBNe, Int.reduceLT, Int.reduceLE, Int.reduceAdd, Int.reduceSub, Int.reduceNeg, Int.reduceToNat, Int.reducePow, Nat.reducePow, Int.reduceMul, Int.reduceDiv, ↓s_model_Of, hlen]
    refine hloop.trans ?_
    simp (disch := first | with_reducible rfl | assumption | omega | rfl | (simp only [go_sem]; first | done | omega)) only [go_sem, ↓reduceIte, reduceCtorEq, Nat.reduceEqDiff, Nat.reduceAdd, Nat.reduceSub, Nat.reduceMul, Nat.reduceDiv, Nat.reduceMod, Nat.reduceLeDiff, Nat.reduceLT, Nat.reduceBEq, Int.reduceEq, Int.reduceBEq, Int.reduceBNe, Int.reduceLT, Int.reduceLE, Int.reduceAdd, Int.reduceSub, Int.reduceNeg, Int.reduceToNat, Int.reducePow, Nat.reducePow, Int.reduceMul, Int.reduceDiv, hlen, decide_eq_true hgt]
    rfl
  · exact hs

theorem q_Of (l : List Pr) (v : Value) (H : AHeap) (hr : Rd EPr H v l) (h : ofErr none l = 0) (hf : l.length ≤ 20000) :
    ∃ b H', CC F.model_Of [v] H = some (.tuple #[.pointer (some ⟨b, 0, none⟩), .int .i64 0], H') ∧ Mdl H' b l ∧ Still H H' ∧ H.n ≤ b ∧ (∀ c, MB H' b c → H.n ≤ c) := by
  have hlen := hr.lenS
  have hgt : ¬ (20000 : Int) < (l.length : Int) := by omega
  obtain ⟨H1, hs, hloop⟩ := l_ofP l v H hr (by omega) (seqK (fun tT h2 => bareK (lenS (get tT 0)) h2 fun t39 h3 =>
    bareK (xbin Try.prog .gtr T.int (.tmp 39) (.const (.int .i64 20000)) t39 (.int .i64 20000)) h3 fun t40 h4 =>
    condL t40 (fun k2 => k2 .ret [(2, (.pointer none)), (3, (.int .i64 7))] h4) (fun k2 =>
    k2 .normal [(0, (get tT 0))] h4) (seqK (fun tT_1 h5 =>
    enterK CC F.slices_Clone_Pair [(get tT_1 0)] h5 fun t42 h6 =>
    bareK (bldS #[(.slice none 0 0)] [(0, 1)] [(0, t42)]) h6 fun t43 h7 =>
    bothK (newv T.model_Model t43 h7) fun t44 h8 =>
    endK Try.prog [.tmp 2, .tmp 3] .ret [(2, t44), (3, (.int .i64 0))] h8) (endK Try.prog [.tmp 2, .tmp 3]))) (endK Try.prog [.tmp 2, .tmp 3])) l 0 H none rfl (Fr.refl H) (by omega) rfl
  rw [if_pos h] at hloop
  obtain ⟨v5, H2, hcl, ho5, s2, hn5⟩ := q_clone_Pair l v H1 (hr.still hs) (by omega)
  have n1 : H.n ≤ H1.n := hs.n
  have n2 : H1.n ≤ H2.n := s2.n
  have s12 : Still H H2 := hs.still.then s2 fun _ _ h => h
  refine ⟨H2.n, H2.push (.cells [v5] T.model_Model true), (d_model_Of _ H (r := (.tuple #[.pointer (some ⟨H2.n, 0, none⟩), .int .i64 0], _)) ?_).trans (congrArg some (tidy_mem rfl)), ?_, s12.push _, by omega, ?_⟩
  · obtain ⟨a, n, c, hv5⟩ : ∃ a n c, v5 = .slice a n c := by
      rcases ho5 with ⟨_, h⟩ | ⟨_, a, h, _⟩ | ⟨b, o, c, xs, h, _⟩ <;> exact ⟨_, _, _, h⟩
    subst hv5
    simp (disch := first | with_reducible rfl | assumption | omega | rfl | (simp only [go_sem]; first | done | omega)) only [go_sem, ↓reduceIte, reduceCtorEq, Nat.reduceEqDiff, Nat.reduceAdd, Nat.reduceSub, Nat.reduceMul, Nat.reduceDiv, Nat.reduceMod, Nat.reduceLeDiff, Nat.reduceLT, Nat.reduceBEq, Int.reduceEq, Int.reduceBEq, Int.reduceBNe, Int.reduceLT, Int.reduceLE, Int.reduceAdd, Int.reduceSub, Int.reduceNeg, Int.reduceToNat, Int.reducePow, Nat.reducePow, Int.reduceMul, Int.reduceDiv, ↓s_model_Of, hlen]
    refine hloop.trans ?_
    simp (disch := first | with_reducible rfl | assumption | omega | rfl | (simp only [go_sem]; first | done | omega)) only [go_sem, ↓reduceIte, reduceCtorEq, Nat.reduceEqDiff, Nat.reduceAdd, Nat.reduceSub, Nat.reduceMul, Nat.reduceDiv, Nat.reduceMod, Nat.reduceLeDiff, Nat.reduceLT, Nat.reduceBEq, Int.reduceEq, Int.reduceBEq, Int.reduceBNe, Int.reduceLT, Int.reduceLE, Int.reduceAdd, Int.reduceSub, Int.reduceNeg, Int.reduceToNat, Int.reducePow, Nat.reducePow, Int.reduceMul, Int.reduceDiv, hlen, decide_eq_false hgt, enterK_eq hcl]
  · refine ⟨v5, push_f_eq rfl, by simp, ho5.still ((Fr.refl _).push _), fun h => by have := ho5.blk h; omega⟩
  · intro c h
    rcases h with h | ⟨u, hu, hb⟩
    · omega
    · rw [push_f_eq rfl] at hu
      cases hu
      have := hn5 c hb
      omega

end Go.Proofs.Ytlagijfkkpbbnaa

/-
  Sorted lists of pairs: where a key is.
  Conditions: none. By an AI agent.
-/
set_option maxRecDepth 10000
set_option linter.unusedSimpArgs false
set_option linter.unusedVariables false
namespace Go.Proofs.Ytlagijfkkpbbnaa
open Go Eng

/-- Sorted, each key once. -/
def Srt (l : List Pr) : Prop := l.Pairwise fun a b => cmpS a.key b.key < 0

/-- Where a key is, or would be. -/
def posP : List Pr → ByteArray → Nat
  | [], _ => 0
  | a :: l, key => if cmpS a.key key < 0 then posP l key + 1 else 0

theorem posP_le : ∀ (l : List Pr) (key : ByteArray), posP l key ≤ l.length
  | [], _ => Nat.le_refl _
  | a :: l, key => by
    rw [posP]
    have := posP_le l key
    split <;> simp <;> omega

theorem cmpS_le_lt {a b c : ByteArray} (h1 : ¬ cmpS a b < 0) (h2 : cmpS a c < 0) : cmpS b c < 0 := by
  by_cases h : cmpS a b = 0
  · rw [← cmpS_eq.1 h]; exact h2
  · have h3 : cmpS b a < 0 := by rw [cmpS_swap]; omega
    exact cmpS_trans h3 h2

theorem posP_pos : ∀ {l : List Pr} (_ : Srt l) (key : ByteArray), PosP l key (posP l key)
  | [], _, key => ⟨Nat.le_refl _, fun i h => absurd h (by simp), fun i h => absurd h (by simp)⟩
  | a :: l, hs, key => by
    obtain ⟨ha, hl⟩ := List.pairwise_cons.1 hs
    obtain ⟨h1, h2, h3⟩ := posP_pos hl key
    rw [posP]
    by_cases h : cmpS a.key key < 0
    · rw [if_pos h]
      refine ⟨by simp; omega, fun i hi hp => ?_, fun i hi hp => ?_⟩
      · cases i with
        | zero => exact h
        | succ i => exact h2 i (by simpa using hi) (by omega)
      · cases i with
        | zero => omega
        | succ i => exact h3 i (by simpa using hi) (by omega)
    · rw [if_neg h]
      refine ⟨by simp, fun i hi hp => by omega, fun i hi hp => ?_⟩
      cases i with
      | zero => exact h
      | succ i =>
        intro hc
        have hb := ha _ (List.getElem_mem (by simpa using hi : i < l.length))
        exact h (cmpS_trans hb hc)

/-- Is a key there? -/
def hasP (l : List Pr) (key : ByteArray) : Bool := isP l key (posP l key)

theorem isP_eq {l : List Pr} {key : ByteArray} {p : Nat} (h : isP l key p = true) : ∃ hp : p < l.length, l[p].key = key := by
  unfold isP at h
  cases hg : l[p]? with
  | none => rw [hg] at h; cases h
  | some a =>
    rw [hg] at h
    obtain ⟨hp, rfl⟩ := List.getElem?_eq_some_iff.1 hg
    exact ⟨hp, cmpS_eq.1 (by simpa using h)⟩

theorem mem_pos {l : List Pr} (hs : Srt l) {i : Nat} (hi : i < l.length) : posP l l[i].key = i := by
  obtain ⟨h1, h2, h3⟩ := posP_pos hs l[i].key
  rcases Nat.lt_trichotomy (posP l l[i].key) i with h | h | h
  · have hlt : posP l l[i].key < l.length := by omega
    have := List.pairwise_iff_getElem.1 hs _ _ hlt hi h
    exact absurd this (h3 _ hlt (Nat.le_refl _))
  · exact h
  · have := h2 i hi h
    rw [cmpS_self] at this
    omega

theorem isP_self {l : List Pr} (hs : Srt l) {i : Nat} (hi : i < l.length) : isP l l[i].key (posP l l[i].key) = true := by
  rw [mem_pos hs hi]
  unfold isP
  rw [List.getElem?_eq_getElem hi]
  simp [cmpS_self]

/-- What a search for an equal key finds: on a sorted list, the place. -/
def findP : List Pr → ByteArray → Nat → Int
  | [], _, _ => -1
  | a :: l, key, i => if bl a.key = bl key then i else findP l key (i + 1)

theorem findP_none : ∀ (l : List Pr) (key : ByteArray) (i : Nat), (∀ a ∈ l, ¬ a.key = key) → findP l key i = -1
  | [], _, _, _ => rfl
  | a :: l, key, i, h => by
    rw [findP, if_neg fun he => h a (by simp) (bl_inj he), findP_none l key (i + 1) fun b hb => h b (by simp [hb])]

theorem findP_some : ∀ (l : List Pr) (key : ByteArray) (i k : Nat) (hk : k < l.length), l[k].key = key → (∀ (j : Nat) (hj : j < l.length), j < k → ¬ l[j].key = key) → findP l key i = ((i + k : Nat) : Int)
  | [], _, _, k, hk, _, _ => absurd hk (by simp)
  | a :: l, key, i, 0, _, h, _ => by
    rw [findP, if_pos (by rw [← h]; rfl)]
    simp
  | a :: l, key, i, k + 1, hk, h, hn => by
    rw [findP, if_neg fun he => hn 0 (by simp) (by omega) (bl_inj he), findP_some l key (i + 1) k (by simpa using hk) h fun j hj hjk => hn (j + 1) (by simpa using hj) (by omega)]
    omega

theorem findP_eq {l : List Pr} (hs : Srt l) (key : ByteArray) : findP l key 0 = if isP l key (posP l key) = true then (posP l key : Int) else -1 := by
  by_cases h : isP l key (posP l key) = true
  · rw [if_pos h]
    obtain ⟨hp, he⟩ := isP_eq h
    have := findP_some l key 0 (posP l key) hp he fun j hj hjk hej => by
      have := mem_pos hs hj
      rw [hej] at this
      omega
    rw [this]; simp
  · rw [if_neg h]
    refine findP_none l key 0 fun a ha hak => h ?_
    obtain ⟨i, hi, rfl⟩ := List.getElem_of_mem ha
    rw [← hak]
    exact isP_self hs hi

/-! ### What stays sorted -/
theorem srt_set {l : List Pr} (hs : Srt l) {p : Nat} {a : Pr} (h : isP l a.key p = true) : Srt (l.set p a) := by
  obtain ⟨hp, he⟩ := isP_eq h
  refine List.pairwise_iff_getElem.2 fun i j hi hj hij => ?_
  have hk : ∀ (i : Nat) (hi : i < (l.set p a).length), (l.set p a)[i].key = (l[i]'(by simpa using hi)).key := by
    intro i hi
    rw [List.getElem_set]
    split
    · rename_i h'; subst h'; exact he.symm
    · rfl
  rw [hk i hi, hk j hj]
  exact List.pairwise_iff_getElem.1 hs _ _ _ _ hij

theorem srt_ins {l : List Pr} (hs : Srt l) {a : Pr} (h : isP l a.key (posP l a.key) = false) : Srt (l.take (posP l a.key) ++ a :: l.drop (posP l a.key)) := by
  obtain ⟨h1, h2, h3⟩ := posP_pos hs a.key
  generalize hp : posP l a.key = p at h h1 h2 h3
  unfold Srt
  rw [List.pairwise_append]
  refine ⟨hs.sublist (List.take_sublist _ _), ?_, ?_⟩
  · rw [List.pairwise_cons]
    refine ⟨fun b hb => ?_, hs.sublist (List.drop_sublist _ _)⟩
    obtain ⟨i, hi, rfl⟩ := List.getElem_of_mem hb
    rw [List.getElem_drop]
    have hi' : p + i < l.length := by simp at hi; omega
    have hge := h3 (p + i) hi' (by omega)
    have hpl : p < l.length := by omega
    have hne0 : ¬ cmpS l[p].key a.key = 0 := by
      unfold isP at h
      rw [List.getElem?_eq_getElem hpl] at h
      simpa using h
    rw [cmpS_swap]
    by_cases hi0 : i = 0
    · subst hi0
      have := h3 p hpl (Nat.le_refl _)
      simp only [Nat.add_zero]
      omega
    · have hlt := List.pairwise_iff_getElem.1 hs p (p + i) hpl hi' (by omega)
      have hpp := h3 p hpl (Nat.le_refl _)
      have : cmpS a.key l[p].key < 0 := by rw [cmpS_swap]; omega
      have := cmpS_trans this hlt
      rw [cmpS_swap] at this
      omega
  · intro b hb c hc
    obtain ⟨i, hi, rfl⟩ := List.getElem_of_mem hb
    rw [List.getElem_take]
    have hi' : i < p := by simp at hi; omega
    have hlt := h2 i (by omega) hi'
    rcases List.mem_cons.1 hc with rfl | hc
    · exact hlt
    · obtain ⟨j, hj, rfl⟩ := List.getElem_of_mem hc
      rw [List.getElem_drop]
      exact List.pairwise_iff_getElem.1 hs _ _ _ _ (by omega)

theorem srt_del {l : List Pr} (hs : Srt l) (p : Nat) : Srt (l.take p ++ l.drop (p + 1)) := by
  rw [← List.eraseIdx_eq_take_drop_succ]
  exact hs.sublist (List.eraseIdx_sublist _ _)

theorem srt_put {l : List Pr} (hs : Srt l) (a : Pr) : Srt (putP l a (posP l a.key)).2 := by
  unfold putP
  split
  · rename_i h; exact srt_set hs h
  · rename_i h
    split
    · exact hs
    · exact srt_ins hs (by simpa using h)
theorem len_put {l : List Pr} (hl : l.length ≤ 20000) (a : Pr) : (putP l a (posP l a.key)).2.length ≤ 20000 := by
  unfold putP
  split
  · simpa using hl
  · split
    · exact hl
    · simp; have := posP_le l a.key; omega
theorem srt_insert {l : List Pr} (hs : Srt l) (a : Pr) : Srt (insertP l a (posP l a.key)).2 := by
  unfold insertP
  split
  · exact hs
  · rename_i h
    split
    · exact hs
    · exact srt_ins hs (by simpa using h)
theorem len_insert {l : List Pr} (hl : l.length ≤ 20000) (a : Pr) : (insertP l a (posP l a.key)).2.length ≤ 20000 := by
  unfold insertP
  split
  · exact hl
  · split
    · exact hl
    · simp; have := posP_le l a.key; omega
theorem srt_swap {l : List Pr} (hs : Srt l) (key old new : ByteArray) : Srt (swapP l key old new (posP l key)).2 := by
  unfold swapP
  split
  · rename_i h
    split
    · exact srt_set (a := ⟨key, new⟩) hs h
    · exact hs
  · exact hs
theorem len_swap {l : List Pr} (hl : l.length ≤ 20000) (key old new : ByteArray) : (swapP l key old new (posP l key)).2.length ≤ 20000 := by
  unfold swapP
  split
  · split
    · simpa using hl
    · exact hl
  · exact hl

end Go.Proofs.Ytlagijfkkpbbnaa

/-
  Chapter 24: the reference.
  Conditions: none. By an AI agent.
-/
set_option maxRecDepth 10000
set_option linter.unusedSimpArgs false
set_option linter.unusedVariables false
namespace Go.Proofs.Ytlagijfkkpbbnaa
open Go Eng

abbrev MdlR := MdlT T.ref24_Model

theorem q_RKey (key : ByteArray) (H : AHeap) : CC F.ref24_Key [.string key] H = some (.int .i64 (chk key []), H) := by
  have e : chk key [] = if bl key = [] then 2 else if 24 < (bl key).length then 5 else 0 := by simp [chk]
  rw [e]
  by_cases h1 : bl key = []
  · rw [if_pos h1]
    apply pure_of _ (d_ref24_Key _ H) rfl
    rotate_left 2
    · simp (disch := first | with_reducible rfl | assumption | omega | rfl | (simp only [go_sem]; first | done | omega)) only [go_sem, ↓reduceIte, reduceCtorEq, Nat.reduceEqDiff, Nat.reduceAdd, Nat.reduceSub, Nat.reduceMul, Nat.reduceDiv, Nat.reduceMod, Nat.reduceLeDiff, Nat.reduceLT, Nat.reduceBEq, Int.reduceEq, Int.reduceBEq, Int.reduceBNe, Int.reduceLT, Int.reduceLE, Int.reduceAdd, Int.reduceSub, Int.reduceNeg, Int.reduceToNat, Int.reducePow, Nat.reducePow, Int.reduceMul, Int.reduceDiv, ↓s_ref24_Key, bl_mk, decide_eq_true h1]
      rfl
    · (repeat (first | exact Fr.refl _ | refine Fr.push ?_ _ | refine Fr.set ?_ _ _ (by intro h; first | omega | (simp only [go_sem] at h; omega))))
  · rw [if_neg h1]
    by_cases h2 : 24 < (bl key).length
    · have h2' : (24 : Int) < ((bl key).length : Int) := by omega
      rw [if_pos h2]
      apply pure_of _ (d_ref24_Key _ H) rfl
      rotate_left 2
      · simp (disch := first | with_reducible rfl | assumption | omega | rfl | (simp only [go_sem]; first | done | omega)) only [go_sem, ↓reduceIte, reduceCtorEq, Nat.reduceEqDiff, Nat.reduceAdd, Nat.reduceSub, Nat.reduceMul, Nat.reduceDiv, Nat.reduceMod, Nat.reduceLeDiff, Nat.reduceLT, Nat.reduceBEq, Int.reduceEq, Int.reduceBEq, Int.reduceBNe, Int.reduceLT, Int.reduceLE, Int.reduceAdd, Int.reduceSub, Int.reduceNeg, Int.reduceToNat, Int.reducePow, Nat.reducePow, Int.reduceMul, Int.reduceDiv, ↓s_ref24_Key, bl_mk, decide_eq_false h1, decide_eq_true h2']
        rfl
      · (repeat (first | exact Fr.refl _ | refine Fr.push ?_ _ | refine Fr.set ?_ _ _ (by intro h; first | omega | (simp only [go_sem] at h; omega))))
    · have h2' : ¬ (24 : Int) < ((bl key).length : Int) := by omega
      rw [if_neg h2]
      apply pure_of _ (d_ref24_Key _ H) rfl
      rotate_left 2
      · simp (disch := first | with_reducible rfl | assumption | omega | rfl | (simp only [go_sem]; first | done | omega)) only [go_sem, ↓reduceIte, reduceCtorEq, Nat.reduceEqDiff, Nat.reduceAdd, Nat.reduceSub, Nat.reduceMul, Nat.reduceDiv, Nat.reduceMod, Nat.reduceLeDiff, Nat.reduceLT, Nat.reduceBEq, Int.reduceEq, Int.reduceBEq, Int.reduceBNe, Int.reduceLT, Int.reduceLE, Int.reduceAdd, Int.reduceSub, Int.reduceNeg, Int.reduceToNat, Int.reducePow, Nat.reducePow, Int.reduceMul, Int.reduceDiv, ↓s_ref24_Key, bl_mk, decide_eq_false h1, decide_eq_false h2']
        rfl
      · (repeat (first | exact Fr.refl _ | refine Fr.push ?_ _ | refine Fr.set ?_ _ _ (by intro h; first | omega | (simp only [go_sem] at h; omega))))

theorem l_bad (l : List ByteArray) (v : Value) (H : AHeap) (hr : Rd EStr H v l) (hl : l.length < 4611686018427387904) (K : K) : ∀ (m : List ByteArray) (i : Nat), l.drop i = m → i ≤ l.length →
    l_ref24_bad_0 v (.int .i64 i) H (blkK [] 0 (seqK (fun _ h2 => K .ret [(4, .int .i64 0)] h2) K)) = K .ret [(4, .int .i64 (if (m.any fun a => decide (40 < (bl a).length)) = true then 5 else 0))] H
  | [], i, hm, hi => by
    have h : l.length ≤ i := List.drop_eq_nil_iff.1 hm
    have hlt : ¬ (i : Int) < (l.length : Int) := by omega
    have hlen := hr.lenS
    rw [r_ref24_bad_0]
    simp (disch := first | with_reducible rfl | assumption | omega | rfl | (simp only [go_sem]; first | done | omega)) only [go_sem, ↓reduceIte, reduceCtorEq, Nat.reduceEqDiff, Nat.reduceAdd, Nat.reduceSub, Nat.reduceMul, Nat.reduceDiv, Nat.reduceMod, Nat.reduceLeDiff, Nat.reduceLT, Nat.reduceBEq, Int.reduceEq, Int.reduceBEq, Int.reduceBNe, Int.reduceLT, Int.reduceLE, Int.reduceAdd, Int.reduceSub, Int.reduceNeg, Int.reduceToNat, Int.reducePow, Nat.reducePow, Int.reduceMul, Int.reduceDiv, ↓s_ref24_bad_b0, hlen, hlt, List.any_nil]
  | a :: m, i, hm, hi => by
    obtain ⟨h, ha, hm'⟩ := drop_cons hm
    have hlt : (i : Int) < (l.length : Int) := by omega
    have hlen := hr.lenS
    have ih := l_bad l v H hr hl K m (i + 1) hm' h
    obtain ⟨b, o, hix, hb, hc, _⟩ := hr.ix (q := .i64) h
    rw [ha] at hc
    have hix : ixS 1 v (.int .i64 i) = some (.pointer (some ⟨b, o, none⟩)) := hix
    have hc : cellB (H.f b) o = some (.string a) := cutB_cell hc (i := 0) (by decide)
    rw [Int.natCast_add] at ih
    rw [r_ref24_bad_0, List.any_cons]
    by_cases he : 40 < (bl a).length
    · have hd : decide (40 < (bl a).length) = true := decide_eq_true he
      have hd' : decide ((40 : Int) < ((bl a).length : Int)) = true := decide_eq_true (by omega)
      rw [hd, Bool.true_or]
      simp (disch := first | with_reducible rfl | assumption | omega | rfl | (simp only [go_sem]; first | done | omega)) only [go_sem, ↓reduceIte, reduceCtorEq, Nat.reduceEqDiff, Nat.reduceAdd, Nat.reduceSub, Nat.reduceMul, Nat.reduceDiv, Nat.reduceMod, Nat.reduceLeDiff, Nat.reduceLT, Nat.reduceBEq, Int.reduceEq, Int.reduceBEq, Int.reduceBNe, Int.reduceLT, Int.reduceLE, Int.reduceAdd, Int.reduceSub, Int.reduceNeg, Int.reduceToNat, Int.reducePow, Nat.reducePow, Int.reduceMul, Int.reduceDiv, ↓s_ref24_bad_b0, hlen, hlt, hix, hc, hd']
    · have hd : decide (40 < (bl a).length) = false := decide_eq_false he
      have hd' : decide ((40 : Int) < ((bl a).length : Int)) = false := decide_eq_false (by omega)
      rw [hd, Bool.false_or]
      simp (disch := first | with_reducible rfl | assumption | omega | rfl | (simp only [go_sem]; first | done | omega)) only [go_sem, ↓reduceIte, reduceCtorEq, Nat.reduceEqDiff, Nat.reduceAdd, Nat.reduceSub, Nat.reduceMul, Nat.reduceDiv, Nat.reduceMod, Nat.reduceLeDiff, Nat.reduceLT, Nat.reduceBEq, Int.reduceEq, Int.reduceBEq, Int.reduceBNe, Int.reduceLT, Int.reduceLE, Int.reduceAdd, Int.reduceSub, Int.reduceNeg, Int.reduceToNat, Int.reducePow, Nat.reducePow, Int.reduceMul, Int.reduceDiv, ↓s_ref24_bad_b0, hlen, hlt, hix, hc, hd']
      exact ih

theorem q_bad (key : ByteArray) (l : List ByteArray) (v : Value) (H : AHeap) (hr : Rd EStr H v l) (hl : l.length < 4611686018427387904) : CC F.ref24_bad [.string key, v] H = some (.int .i64 (chk key l), H) := by
  have hk := q_RKey key H
  by_cases h0 : chk key [] = 0
  · have e : chk key l = if (l.any fun a => decide (40 < (bl a).length)) = true then 5 else 0 := by
      unfold chk at h0 ⊢
      split at h0
      · cases h0
      · rename_i h1
        rw [if_neg h1]
        split at h0
        · cases h0
        · rename_i h2
          simp at h2
          have h2 : ¬ 24 < (bl key).length := by omega
          simp [h2]
    rw [e]
    rw [h0] at hk
    have hloop := l_bad l v H hr hl (endK Try.prog [.tmp 4]) l 0 rfl (by omega)
    generalize (if (l.any fun a => decide (40 < (bl a).length)) = true then (5 : Int) else 0) = y at hloop
    apply pure_of _ (d_ref24_bad _ _ H) rfl
    rotate_left 2
    · simp (disch := first | with_reducible rfl | assumption | omega | rfl | (simp only [go_sem]; first | done | omega)) only [go_sem, ↓reduceIte, reduceCtorEq, Nat.reduceEqDiff, Nat.reduceAdd, Nat.reduceSub, Nat.reduceMul, Nat.reduceDiv, Nat.reduceMod, Nat.reduceLeDiff, Nat.reduceLT, Nat.reduceBEq, Int.reduceEq, Int.reduceBEq, Int.reduceBNe, Int.reduceLT, Int.reduceLE, Int.reduceAdd, Int.reduceSub, Int.reduceNeg, Int.reduceToNat, Int.reducePow, Nat.reducePow, Int.reduceMul, Int.reduceDiv, ↓s_ref24_bad, enterK_eq hk]
      exact hloop
    · (repeat (first | exact Fr.refl _ | refine Fr.push ?_ _ | refine Fr.set ?_ _ _ (by intro h; first | omega | (simp only [go_sem] at h; omega))))
  · have e : chk key l = chk key [] := by
      unfold chk at h0 ⊢
      by_cases h1 : bl key = []
      · simp [h1]
      · by_cases h2 : 24 < (bl key).length
        · simp [h1, h2]
        · simp [h1, h2] at h0
    rw [e]
    generalize chk key [] = y at hk h0
    apply pure_of _ (d_ref24_bad _ _ H) rfl
    rotate_left 2
    · simp (disch := first | with_reducible rfl | assumption | omega | rfl | (simp only [go_sem]; first | done | omega)) only [go_sem, ↓reduceIte, reduceCtorEq, Nat.reduceEqDiff, Nat.reduceAdd, Nat.reduceSub, Nat.reduceMul, Nat.reduceDiv, Nat.reduceMod, Nat.reduceLeDiff, Nat.reduceLT, Nat.reduceBEq, Int.reduceEq, Int.reduceBEq, Int.reduceBNe, Int.reduceLT, Int.reduceLE, Int.reduceAdd, Int.reduceSub, Int.reduceNeg, Int.reduceToNat, Int.reducePow, Nat.reducePow, Int.reduceMul, Int.reduceDiv, ↓s_ref24_bad, enterK_eq hk, h0]
      rfl
    · (repeat (first | exact Fr.refl _ | refine Fr.push ?_ _ | refine Fr.set ?_ _ _ (by intro h; first | omega | (simp only [go_sem] at h; omega))))

theorem l_find (b : Nat) (l : List Pr) (v : Value) (key : ByteArray) (H : AHeap) (hf : H.f b = .cells [v] T.ref24_Model true) (hr : Rd EPr H v l) (hl : l.length < 4611686018427387904) (K : K) : ∀ (m : List Pr) (i : Nat), l.drop i = m → i ≤ l.length →
    l_ref24_Model_find_0 (.pointer (some ⟨b, 0, none⟩)) (.string key) (.int .i64 i) H (blkK [] 0 (seqK (fun _ h2 => K .ret [(4, .int .i64 (-1))] h2) K)) = K .ret [(4, .int .i64 (findP m key i))] H
  | [], i, hm, hi => by
    have h : l.length ≤ i := List.drop_eq_nil_iff.1 hm
    have hlt : ¬ (i : Int) < (l.length : Int) := by omega
    have hlen := hr.lenS
    rw [r_ref24_Model_find_0]
    simp (disch := first | with_reducible rfl | assumption | omega | rfl | (simp only [go_sem]; first | done | omega)) only [go_sem, ↓reduceIte, reduceCtorEq, Nat.reduceEqDiff, Nat.reduceAdd, Nat.reduceSub, Nat.reduceMul, Nat.reduceDiv, Nat.reduceMod, Nat.reduceLeDiff, Nat.reduceLT, Nat.reduceBEq, Int.reduceEq, Int.reduceBEq, Int.reduceBNe, Int.reduceLT, Int.reduceLE, Int.reduceAdd, Int.reduceSub, Int.reduceNeg, Int.reduceToNat, Int.reducePow, Nat.reducePow, Int.reduceMul, Int.reduceDiv, ↓s_ref24_Model_find_b0, hf, hlen, hlt, findP]
  | a :: m, i, hm, hi => by
    obtain ⟨h, ha, hm'⟩ := drop_cons hm
    have hlt : (i : Int) < (l.length : Int) := by omega
    have hlen := hr.lenS
    have ih := l_find b l v key H hf hr hl K m (i + 1) hm' h
    obtain ⟨bb, o, hix, hb, hc, _⟩ := hr.ix (q := .i64) h
    rw [ha] at hc
    have hix : ixS 2 v (.int .i64 i) = some (.pointer (some ⟨bb, o, none⟩)) := hix
    have hc : cellB (H.f bb) o = some (.string a.key) := cutB_cell hc (i := 0) (by decide)
    rw [Int.natCast_add] at ih
    rw [r_ref24_Model_find_0, findP]
    by_cases he : bl a.key = bl key
    · rw [if_pos he]
      simp (disch := first | with_reducible rfl | assumption | omega | rfl | (simp only [go_sem]; first | done | omega)) only [go_sem, ↓reduceIte, reduceCtorEq, Nat.reduceEqDiff, Nat.reduceAdd, Nat.reduceSub, Nat.reduceMul, Nat.reduceDiv, Nat.reduceMod, Nat.reduceLeDiff, Nat.reduceLT, Nat.reduceBEq, Int.reduceEq, Int.reduceBEq, Int.reduceBNe, Int.reduceLT, Int.reduceLE, Int.reduceAdd, Int.reduceSub, Int.reduceNeg, Int.reduceToNat, Int.reducePow, Nat.reducePow, Int.reduceMul, Int.reduceDiv, ↓s_ref24_Model_find_b0, hf, hlen, hlt, hix, hc, decide_eq_true he]
    · rw [if_neg he]
      simp (disch := first | with_reducible rfl | assumption | omega | rfl | (simp only [go_sem]; first | done | omega)) only [go_sem, ↓reduceIte, reduceCtorEq, Nat.reduceEqDiff, Nat.reduceAdd, Nat.reduceSub, Nat.reduceMul, Nat.reduceDiv, Nat.reduceMod, Nat.reduceLeDiff, Nat.reduceLT, Nat.reduceBEq, Int.reduceEq, Int.reduceBEq, Int.reduceBNe, Int.reduceLT, Int.reduceLE, Int.reduceAdd, Int.reduceSub, Int.reduceNeg, Int.reduceToNat, Int.reducePow, Nat.reducePow, Int.reduceMul, Int.reduceDiv, ↓s_ref24_Model_find_b0, hf, hlen, hlt, hix, hc, decide_eq_false he]
      exact ih

theorem q_find (b : Nat) (l : List Pr) (key : ByteArray) (H : AHeap) (r : MdlR H b l) (hl : l.length < 4611686018427387904) : CC F.ref24_Model_find [.pointer (some ⟨b, 0, none⟩), .string key] H = some (.int .i64 (findP l key 0), H) := by
  obtain ⟨v, h1, h2, h3, h4⟩ := r
  have hloop := l_find b l v key H h1 h3.rd hl (endK Try.prog [.tmp 4]) l 0 rfl (by omega)
  apply pure_of _ (d_ref24_Model_find _ _ H) rfl
  rotate_left 2
  · simp (disch := first | with_reducible rfl | assumption | omega | rfl | (simp only [go_sem]; first | done | omega)) only [go_sem, ↓reduceIte, reduceCtorEq, Nat.reduceEqDiff, Nat.reduceAdd, Nat.reduceSub, Nat.reduceMul, Nat.reduceDiv, Nat.reduceMod, Nat.reduceLeDiff, Nat.reduceLT, Nat.reduceBEq, Int.reduceEq, Int.reduceBEq, Int.reduceBNe, Int.reduceLT, Int.reduceLE, Int.reduceAdd, Int.reduceSub, Int.reduceNeg, Int.reduceToNat, Int.reducePow, Nat.reducePow, Int.reduceMul, Int.reduceDiv, ↓s_ref24_Model_find]
    exact hloop
  · (repeat (first | exact Fr.refl _ | refine Fr.push ?_ _ | refine Fr.set ?_ _ _ (by intro h; first | omega | (simp only [go_sem] at h; omega))))

theorem q_RGet_bad (b : Nat) (key : ByteArray) (H : AHeap) (hc : chk key [] ≠ 0) : CC F.ref24_Model_Get [.pointer (some ⟨b, 0, none⟩), .string key] H = some (.tuple #[.string (mk []), .int .i64 (chk key [])], H) := by
  have hk := q_RKey key H
  generalize chk key [] = e at hk hc
  apply pure_of _ (d_ref24_Model_Get _ _ H) rfl
  rotate_left 2
  · simp (disch := first | with_reducible rfl | assumption | omega | rfl | (simp only [go_sem]; first | done | omega)) only [go_sem, ↓reduceIte, reduceCtorEq, Nat.reduceEqDiff, Nat.reduceAdd, Nat.reduceSub, Nat.reduceMul, Nat.reduceDiv, Nat.reduceMod, Nat.reduceLeDiff, Nat.reduceLT, Nat.reduceBEq, Int.reduceEq, Int.reduceBEq, Int.reduceBNe, Int.reduceLT, Int.reduceLE, Int.reduceAdd, Int.reduceSub, Int.reduceNeg, Int.reduceToNat, Int.reducePow, Nat.reducePow, Int.reduceMul, Int.reduceDiv, ↓s_ref24_Model_Get, enterK_eq hk, hc]
    rfl
  · (repeat (first | exact Fr.refl _ | refine Fr.push ?_ _ | refine Fr.set ?_ _ _ (by intro h; first | omega | (simp only [go_sem] at h; omega))))

theorem q_RGet (b : Nat) (l : List Pr) (key : ByteArray) (H : AHeap) (r : MdlR H b l) (hs : Srt l) (hl : l.length < 4611686018427387904) (hc : chk key [] = 0) :
    CC F.ref24_Model_Get [.pointer (some ⟨b, 0, none⟩), .string key] H = some (getP l key (posP l key), H) := by
  have hk := q_RKey key H
  rw [hc] at hk
  have hf := q_find b l key H r hl
  rw [findP_eq hs] at hf
  generalize posP l key = p at hf ⊢
  obtain ⟨v, h1, h2, h3, h4⟩ := r
  unfold getP
  cases his : isP l key p with
  | false =>
    rw [his] at hf
    simp only [Bool.false_eq_true, if_false] at hf ⊢
    apply pure_of _ (d_ref24_Model_Get _ _ H) rfl
    rotate_left 2
    · simp (disch := first | with_reducible rfl | assumption | omega | rfl | (simp only [go_sem]; first | done | omega)) only [go_sem, ↓reduceIte, reduceCtorEq, Nat.reduceEqDiff, Nat.reduceAdd, Nat.reduceSub, Nat.reduceMul, Nat.reduceDiv, Nat.reduceMod, Nat.reduceLeDiff, Nat.reduceLT, Nat.reduceBEq, Int.reduceEq, Int.reduceBEq, Int.reduceBNe, Int.reduceLT, Int.reduceLE, Int.reduceAdd, Int.reduceSub, Int.reduceNeg, Int.reduceToNat, Int.reducePow, Nat.reducePow, Int.reduceMul, Int.reduceDiv, ↓s_ref24_Model_Get, enterK_eq hk, enterK_eq hf]
      rfl
    · (repeat (first | exact Fr.refl _ | refine Fr.push ?_ _ | refine Fr.set ?_ _ _ (by intro h; first | omega | (simp only [go_sem] at h; omega))))
  | true =>
    rw [his] at hf
    have hlt := isP_lt his
    obtain ⟨bb, o, hix, hb, hcc, _⟩ := h3.rd.ix (q := .i64) hlt
    have hix : ixS 2 v (.int .i64 p) = some (.pointer (some ⟨bb, o, none⟩)) := hix
    have hcc : cellB (H.f bb) (o + 1) = some (.string l[p].value) := cutB_cell hcc (i := 1) (by decide)
    have hge : ¬ (p : Int) < 0 := by omega
    simp only [if_true, List.getElem?_eq_getElem hlt, Option.elim] at hf ⊢
    apply pure_of _ (d_ref24_Model_Get _ _ H) rfl
    rotate_left 2
    · simp (disch := first | with_reducible rfl | assumption | omega | rfl | (simp only [go_sem]; first | done | omega)) only [go_sem, ↓reduceIte, reduceCtorEq, Nat.reduceEqDiff, Nat.reduceAdd, Nat.reduceSub, Nat.reduceMul, Nat.reduceDiv, Nat.reduceMod, Nat.reduceLeDiff, Nat.reduceLT, Nat.reduceBEq, Int.reduceEq, Int.reduceBEq, Int.reduceBNe, Int.reduceLT, Int.reduceLE, Int.reduceAdd, Int.reduceSub, Int.reduceNeg, Int.reduceToNat, Int.reducePow, Nat.reducePow, Int.reduceMul, Int.reduceDiv, ↓s_ref24_Model_Get, enterK_eq hk, enterK_eq hf, decide_eq_false hge, h1, hix, hcc]
      rfl
    · (repeat (first | exact Fr.refl _ | refine Fr.push ?_ _ | refine Fr.set ?_ _ _ (by intro h; first | omega | (simp only [go_sem] at h; omega))))

end Go.Proofs.Ytlagijfkkpbbnaa

/-
  Rows: appending where nothing may be appended; parts that are only read; one cell of a pair.
  Conditions: none. By an AI agent.
-/
set_option maxRecDepth 10000
set_option linter.unusedSimpArgs false
set_option linter.unusedVariables false
namespace Go.Proofs.Ytlagijfkkpbbnaa
open Go Eng

variable {α : Type} {E : Enc α} {H : AHeap} {v : Value} {l m : List α} {e : TypeId}

theorem Eng.Own.nil : Own E H e (.slice none 0 0) [] := .inl ⟨rfl, rfl⟩

theorem Eng.Own.appE (r : Own E H e v l) {sz bytes : Nat} (hsz : sz = E.w) (hb : (l.length + m.length) * bytes ≤ 140737488355328) (hn : l.length + m.length ≤ 140737488355328)
    {src : Option (Nat × List Value)} (hsrc : src = some (m.length, E.cells m)) :
    ∃ v' H', Eng.app e sz bytes v src H = some (v', H') ∧ Own E H' e v' (l ++ m) ∧ Fr (OnlyOf v) H H' ∧ (blockOf v' = blockOf v ∨ blockOf v' = some H.n) := by
  by_cases hm : m = []
  · subst hm hsrc
    refine ⟨v, H, ?_, by simpa using r, Fr.refl H, .inl rfl⟩
    rcases r with ⟨rfl, rfl⟩ | ⟨rfl, a, rfl, _, _⟩ | ⟨b, o, c, xs, rfl, _⟩ <;> rfl
  · obtain ⟨v', H', h1, h2, h3, h4, _⟩ := r.app hm hsz hb hn hsrc
    exact ⟨v', H', h1, h2, h3, h4⟩

/-- Appending to a row whose capacity is its length. -/
theorem Eng.Rd.appX {a : Option Addr} {n : Nat} (r : Rd E H (.slice a n (2 * n)) l) {sz bytes : Nat} (hsz : sz = E.w) (hb : (l.length + m.length) * bytes ≤ 140737488355328) (hn : l.length + m.length ≤ 140737488355328)
    {src : Option (Nat × List Value)} (hsrc : src = some (m.length, E.cells m)) (h0 : l ≠ []) :
    ∃ v' H', Eng.app e sz bytes (.slice a n (2 * n)) src H = some (v', H') ∧ Rd E H' v' (l ++ m) ∧ Still H H' ∧ (blockOf v' = a.map (·.block) ∨ blockOf v' = some H.n) := by
  subst hsz
  by_cases hm : m = []
  · subst hm hsrc
    refine ⟨_, H, rfl, by simpa using r, Fr.refl H, ?_⟩
    rcases r with h | ⟨h, _⟩ | ⟨b, o, c, hv, _⟩
    · exact absurd h.1 h0
    · exact absurd h h0
    · cases hv; exact .inl rfl
  · have hm0 : m.length ≠ 0 := fun h => hm (List.length_eq_zero_iff.1 h)
    rcases r with h | ⟨h, _⟩ | ⟨b, o, c, hv, hl, hbn, hc⟩
    · exact absurd h.1 h0
    · exact absurd h h0
    · cases hv
      refine ⟨.slice (some ⟨H.n, 0, none⟩) (l.length + m.length) (2 * (l.length + m.length) + 1), H.push (.cells (E.cells l ++ E.cells m) e true), ?_, ?_, (Fr.refl H).push _, .inr rfl⟩
      · have hold : oldOf E.w l.length H (some ⟨b, o, none⟩) = some (E.cells l) := by
          unfold oldOf
          rw [if_neg fun h => hl (List.length_eq_zero_iff.1 h)]
          simp only [cut_b, hc]
        have hbig : ¬ ((l.length + m.length) * bytes > 140737488355328 ∨ l.length + m.length > 140737488355328) := by omega
        have hroom : ¬ (l.length + m.length ≤ 2 * l.length / 2) := by omega
        have hone := E.cells_one m
        subst hsrc
        simp only [Eng.app, Option.bind_some, hm0, if_false, hbig, hroom, hone, Bool.true_eq_false, hold, show 2 * l.length % 2 = 0 by omega, if_true, Option.map_some]
      · refine .inr (.inr ⟨H.n, 0, _, by rw [List.length_append], by simp [hm], by simp, ?_⟩)
        rw [push_f_eq rfl, cutB_c (by simp [Nat.add_mul]), E.cells_append]
        rw [List.drop_zero, List.take_of_length_le (by simp [Nat.add_mul])]

/-- The first elements. -/
theorem Eng.Own.hi (r : Own E H e v l) {sz : Nat} (hsz : sz = E.w) {i : Nat} (hi : i ≤ l.length) {q : IntKind} : ∃ v', slS e sz v none (some (.int q (i : Int))) none H = some v' ∧ Rd E H v' (l.take i) := by
  subst hsz
  rcases r with ⟨rfl, rfl⟩ | ⟨rfl, ⟨b, o, s⟩, rfl, hs, hbb⟩ | ⟨b, o, c, xs, rfl, hl, hbn, hf, ho, hx⟩
  · simp only [List.length_nil, Nat.le_zero_eq] at hi
    subst hi
    exact ⟨.slice none 0 0, rfl, .inl ⟨by simp, rfl⟩⟩
  · simp only at hs
    subst hs
    simp only [List.length_nil, Nat.le_zero_eq] at hi
    subst hi
    exact ⟨.slice (some ⟨b, o, none⟩) 0 0, by simp [slS, lowOf, highOf, bnd], .inr (.inl ⟨by simp, _, _, rfl, rfl⟩)⟩
  · have hmul := Nat.mul_le_mul_right E.w hl
    have hmi := Nat.mul_le_mul_right E.w hi
    refine ⟨_, sl_hi hf (Nat.le_trans hi hl), ?_⟩
    have hlen : (l.take i).length = i := by simp; omega
    by_cases h0 : i = 0
    · subst h0; exact .inr (.inl ⟨by simp, _, _, rfl, rfl⟩)
    · refine .inr (.inr ⟨b, o, _, by rw [hlen], fun h => h0 (by rw [← hlen, h]; rfl), hbn, ?_⟩)
      rw [hlen, hf, cutB_c (by omega), ← E.cells_take, ← hx, List.take_take, Nat.min_eq_left hmi]

/-- The second cell of a pair. -/
theorem wr1_two {k k' : Blk} {o : Nat} {x y : ByteArray} {w : Value} (hc : cutB k o 2 = some [.string x, w]) (h : wrL k o [.string x, .string y] = some k') : wr1 k (o + 1) (.string y) = some k' := by
  unfold cutB at hc
  unfold wrL at h
  unfold wr1
  cases k with
  | cells xs e rw =>
    cases rw with
    | false => cases h
    | true =>
      simp only at hc h ⊢
      split at hc
      · rename_i hle
        rw [if_pos (by simpa using hle)] at h
        have hx : xs[o]? = some (.string x) := by
          have := congrArg (fun z => z[0]?) (Option.some.inj hc)
          simp only [List.getElem?_take, List.getElem?_drop] at this
          simpa using this
        rw [if_pos (by omega)]
        have he : xs.set o (.string x) = xs := by
          apply List.ext_getElem?
          intro j
          by_cases hj : j = o
          · subst hj; rw [List.getElem?_set_self (by omega), hx]
          · rw [List.getElem?_set_ne (by omega)]
        simp only [List.all_cons, List.all_nil, one_s, Bool.and_self, if_true, spl, he] at h
        rw [if_pos (one_s)]
        simpa using h
      · cases hc
  | _ => cases h

theorem Eng.Own.writeV {l : List Pr} (r : Own EPr H T.api_Pair v l) {i : Nat} (hi : i < l.length) (x : ByteArray) :
    ∃ b o H', ixS 2 v (.int .i64 (i : Int)) = some (.pointer (some ⟨b, o, none⟩)) ∧ setB H b (wr1 (H.f b) (o + 1) (.string x)) = some H' ∧ Own EPr H' T.api_Pair v (l.set i ⟨l[i].key, x⟩) ∧ blockOf v = some b ∧ b < H.n ∧
      H'.n = H.n ∧ Fr (fun c => c = b) H H' := by
  obtain ⟨b, o, H', h1, h2, h3, h4, h5, h6, h7, _⟩ := Own.write r hi ⟨l[i].key, x⟩
  obtain ⟨b2, o2, g1, g2, g3, _⟩ := r.rd.ix (q := .i64) hi
  have g1 : ixS 2 v (.int .i64 (i : Int)) = some (.pointer (some ⟨b2, o2, none⟩)) := g1
  rw [h1] at g1
  cases g1
  refine ⟨b, o, H', h1, ?_, h3, h4, h5, h6, h7⟩
  unfold setB at h2 ⊢
  obtain ⟨k', hk, rfl⟩ := Option.map_eq_some_iff.1 h2
  rw [wr1_two g3 hk]
  rfl

end Go.Proofs.Ytlagijfkkpbbnaa

/-
  Chapter 24: the reference, Put, Insert, Delete, Swap.
  Conditions: none. By an AI agent.
-/
set_option maxRecDepth 10000
set_option linter.unusedSimpArgs false
set_option linter.unusedVariables false
namespace Go.Proofs.Ytlagijfkkpbbnaa
open Go Eng

theorem q_RPut_bad (b : Nat) (a : Pr) (H : AHeap) (hc : chk a.key [a.value] ≠ 0) :
    CC F.ref24_Model_Put [.pointer (some ⟨b, 0, none⟩), .string a.key, .string a.value] H = some (.int .i64 (chk a.key [a.value]), H) := by
  have hb := q_bad a.key [a.value] _ _ (rdOne a.value H) (by simp)
  generalize chk a.key [a.value] = e at hb hc
  apply pure_of _ (d_ref24_Model_Put _ _ _ H) rfl
  rotate_left 2
  · simp (disch := first | with_reducible rfl | assumption | omega | rfl | (simp only [go_sem]; first | done | omega)) only [go_sem, ↓reduceIte, reduceCtorEq, Nat.reduceEqDiff, Nat.reduceAdd, Nat.reduceSub, Nat.reduceMul, Nat.reduceDiv, Nat.reduceMod, Nat.reduceLeDiff, Nat.reduceLT, Nat.reduceBEq, Int.reduceEq, Int.reduceBEq, Int.reduceBNe, Int.reduceLT, Int.reduceLE, Int.reduceAdd, Int.reduceSub, Int.reduceNeg, Int.reduceToNat, Int.reducePow, Nat.reducePow, Int.reduceMul, Int.reduceDiv, ↓s_ref24_Model_Put, enterK_eq hb, hc]
    rfl
  · (repeat (first | exact Fr.refl _ | refine Fr.push ?_ _ | refine Fr.set ?_ _ _ (by intro h; first | omega | (simp only [go_sem] at h; omega))))

theorem l_RPut (b : Nat) (l : List Pr) (v : Value) (key val : ByteArray) (H : AHeap) (hf : H.f b = .cells [v] T.ref24_Model true) (hr : Rd EPr H v l) (hl : l.length < 4611686018427387904) (K : K) : ∀ (m : List Pr) (i : Nat), l.drop i = m → i ≤ l.length →
    l_ref24_Model_Put_0 (.pointer (some ⟨b, 0, none⟩)) (.string key) (.string val) (.int .i64 i) H (blkK [0, 1, 2, 9] 0 K) = K .normal [(0, .pointer (some ⟨b, 0, none⟩)), (1, .string key), (2, .string val), (9, .int .i64 ((i + posP m key : Nat) : Int))] H
  | [], i, hm, hi => by
    have h : l.length ≤ i := List.drop_eq_nil_iff.1 hm
    have hlt : ¬ (i : Int) < (l.length : Int) := by omega
    have hlen := hr.lenS
    rw [r_ref24_Model_Put_0, posP, Nat.add_zero]
    simp (disch := first | with_reducible rfl | assumption | omega | rfl | (simp only [go_sem]; first | done | omega)) only [go_sem, ↓reduceIte, reduceCtorEq, Nat.reduceEqDiff, Nat.reduceAdd, Nat.reduceSub, Nat.reduceMul, Nat.reduceDiv, Nat.reduceMod, Nat.reduceLeDiff, Nat.reduceLT, Nat.reduceBEq, Int.reduceEq, Int.reduceBEq, Int.reduceBNe, Int.reduceLT, Int.reduceLE, Int.reduceAdd, Int.reduceSub, Int.reduceNeg, Int.reduceToNat, Int.reducePow, Nat.reducePow, Int.reduceMul, Int.reduceDiv, ↓s_ref24_Model_Put_b0, hf, hlen, decide_eq_false hlt]
  | a :: m, i, hm, hi => by
    obtain ⟨h, ha, hm'⟩ := drop_cons hm
    have hlt : (i : Int) < (l.length : Int) := by omega
    have hlen := hr.lenS
    have ih := l_RPut b l v key val H hf hr hl K m (i + 1) hm' h
    obtain ⟨bb, o, hix, hb, hc, _⟩ := hr.ix (q := .i64) h
    rw [ha] at hc
    have hix : ixS 2 v (.int .i64 i) = some (.pointer (some ⟨bb, o, none⟩)) := hix
    have hc : cellB (H.f bb) o = some (.string a.key) := cutB_cell hc (i := 0) (by decide)
    rw [Int.natCast_add i 1, show i + 1 + posP m key = i + (posP m key + 1) by omega] at ih
    rw [r_ref24_Model_Put_0, posP]
    by_cases he : cmpS a.key key < 0
    · rw [if_pos he]
      simp (disch := first | with_reducible rfl | assumption | omega | rfl | (simp only [go_sem]; first | done | omega)) only [go_sem, ↓reduceIte, reduceCtorEq, Nat.reduceEqDiff, Nat.reduceAdd, Nat.reduceSub, Nat.reduceMul, Nat.reduceDiv, Nat.reduceMod, Nat.reduceLeDiff, Nat.reduceLT, Nat.reduceBEq, Int.reduceEq, Int.reduceBEq, Int.reduceBNe, Int.reduceLT, Int.reduceLE, Int.reduceAdd, Int.reduceSub, Int.reduceNeg, Int.reduceToNat, Int.reducePow, Nat.reducePow, Int.reduceMul, Int.reduceDiv, ↓s_ref24_Model_Put_b0, hf, hlen, decide_eq_true hlt, hix, hc, less_cmpS, decide_eq_true he]
      exact ih
    · rw [if_neg he, Nat.add_zero]
      simp (disch := first | with_reducible rfl | assumption | omega | rfl | (simp only [go_sem]; first | done | omega)) only [go_sem, ↓reduceIte, reduceCtorEq, Nat.reduceEqDiff, Nat.reduceAdd, Nat.reduceSub, Nat.reduceMul, Nat.reduceDiv, Nat.reduceMod, Nat.reduceLeDiff, Nat.reduceLT, Nat.reduceBEq, Int.reduceEq, Int.reduceBEq, Int.reduceBNe, Int.reduceLT, Int.reduceLE, Int.reduceAdd, Int.reduceSub, Int.reduceNeg, Int.reduceToNat, Int.reducePow, Nat.reducePow, Int.reduceMul, Int.reduceDiv, ↓s_ref24_Model_Put_b0, hf, hlen, decide_eq_true hlt, hix, hc, less_cmpS, decide_eq_false he]

theorem q_RPut (b : Nat) (l : List Pr) (a : Pr) (H : AHeap) (ok : Ok H) (r : MdlR H b l) (hs : Srt l) (hl : l.length ≤ 20000) (hc : chk a.key [a.value] = 0) :
    ∃ H', CC F.ref24_Model_Put [.pointer (some ⟨b, 0, none⟩), .string a.key, .string a.value] H = some (.int .i64 (putP l a (posP l a.key)).1, H') ∧ MdlR H' b (putP l a (posP l a.key)).2 ∧ UpT T.ref24_Model H b H' := by
  generalize hH1 : H.push (.cells [.string a.value] T.string true) = H1
  have s1 : Still H H1 := by rw [← hH1]; exact (Fr.refl H).push _
  have n1 : H1.n = H.n + 1 := by rw [← hH1]; rfl
  have hb := q_bad a.key [a.value] _ _ (rdOne a.value H) (by simp)
  rw [hH1, hc] at hb
  have r1 := r.still s1
  have hf := q_find b l a.key H1 r1 (by omega)
  rw [findP_eq hs] at hf
  have hpl := posP_le l a.key
  have hlo := fun v h1 h3 => l_RPut b l v a.key a.value H1 h1 h3 (by omega)
  generalize hp : posP l a.key = p at hf hpl ⊢
  obtain ⟨v, h1, h2, h3, h4⟩ := id r1
  have hlen := h3.rd.lenS
  unfold putP
  cases his : isP l a.key p with
  | true =>
    obtain ⟨hlt, hkey⟩ := isP_eq his
    rw [his] at hf
    simp only [if_true] at hf ⊢
    have hge : (0 : Int) ≤ (p : Int) := by omega
    obtain ⟨v2, H2, happ, ho2, fr2, hb2⟩ := (Own.nil (E := EPr) (H := H1) (e := T.api_Pair)).appE (m := l) (sz := 2) (bytes := 32) rfl (by simp; omega) (by simp; omega) (h3.rd.src (sz := 2) rfl)
    have hb2' : ∀ c, blockOf v2 = some c → H1.n ≤ c := fun c h => by
      rcases hb2 with hb2 | hb2
      · rw [hb2] at h; cases h
      · rw [hb2] at h; cases h; exact Nat.le_refl _
    have fr2 : Still H1 H2 := fr2.mono fun c _ h => by unfold OnlyOf at h; cases h
    have hone : one v2 = true := ho2.cell
    have fb2 : H2.f b = .cells [v] T.ref24_Model true := by rw [fr2.f h2 (fun h => h), h1]
    have n2 : H1.n ≤ H2.n := fr2.n
    generalize hH3 : H2.set b (.cells [v2] T.ref24_Model true) = H3
    have f3 : H3.f b = .cells [v2] T.ref24_Model true := by rw [← hH3]; exact set_f_eq
    have fr3 : Fr (fun c => c = b) H2 H3 := by rw [← hH3]; exact Fr.set (Fr.refl H2) b _ fun _ => rfl
    have n3 : H3.n = H2.n := by rw [← hH3]; rfl
    have ho3 : Own EPr H3 T.api_Pair v2 l := ho2.keep fr3 fun c hc h => by have := hb2' c hc; omega
    obtain ⟨bb, o, H4, hix, hw, ho4, hbv, hbn, hn4, fr4⟩ := ho3.writeV hlt a.value
    have hbb : H1.n ≤ bb := hb2' bb hbv
    have fr : Fr (MBT T.ref24_Model H b) H H4 := by
      have t1 : Fr (fun c => c = b) H H2 := (s1.then fr2 fun _ _ h => h).still
      refine ((t1.then fr3 fun c _ h => h).then fr4 fun c hc h => ?_).mono fun c hc h => .inl h
      omega
    have f4 : H4.f b = .cells [v2] T.ref24_Model true := by rw [fr4.f (by omega) (by omega), f3]
    have hm : MdlR H4 b (l.set p a) := by
      have ha : (⟨l[p].key, a.value⟩ : Pr) = a := by rw [hkey]
      rw [ha] at ho4
      exact ⟨v2, f4, by omega, ho4, fun h => by have := hb2' b h; omega⟩
    obtain ⟨v0, g1, g2, g3, g4⟩ := id r
    have hup : UpT T.ref24_Model H b H4 := UpT.of g1 fr f4 fun c hc => .inr (by have := hb2' c hc; omega)
    obtain ⟨H'', ht, hm', hf'⟩ := Mdl.tidied (v := .int .i64 0) ok r hm hup
    refine ⟨H'', (d_ref24_Model_Put _ _ _ H (r := (.int .i64 0, H4)) ?_).trans (congrArg some ht), hm', hf'⟩
    simp (disch := first | with_reducible rfl | assumption | omega | rfl | (simp only [go_sem]; first | done | omega)) only [go_sem, ↓reduceIte, reduceCtorEq, Nat.reduceEqDiff, Nat.reduceAdd, Nat.reduceSub, Nat.reduceMul, Nat.reduceDiv, Nat.reduceMod, Nat.reduceLeDiff, Nat.reduceLT, Nat.reduceBEq, Int.reduceEq, Int.reduceBEq, Int.reduceBNe, Int.reduceLT, Int.reduceLE, Int.reduceAdd, Int.reduceSub, Int.reduceNeg, Int.reduceToNat, Int.reducePow, Nat.reducePow, Int.reduceMul, Int.reduceDiv, ↓s_ref24_Model_Put, hH1, enterK_eq hb, enterK_eq hf, decide_eq_true hge, h1, happ, fb2, hH3, f3, hix, hw]
  | false =>
    rw [his] at hf
    simp only [Bool.false_eq_true, if_false] at hf ⊢
    by_cases hfull : l.length = 20000
    · rw [if_pos hfull]
      have hge : (20000 : Int) ≤ (l.length : Int) := by omega
      refine ⟨H, ?_, r, UpT.refl H b⟩
      refine pure_of (H' := H1) ?_ (d_ref24_Model_Put _ _ _ H) rfl s1
      simp (disch := first | with_reducible rfl | assumption | omega | rfl | (simp only [go_sem]; first | done | omega)) only [go_sem, ↓reduceIte, reduceCtorEq, Nat.reduceEqDiff, Nat.reduceAdd, Nat.reduceSub, Nat.reduceMul, Nat.reduceDiv, Nat.reduceMod, Nat.reduceLeDiff, Nat.reduceLT, Nat.reduceBEq, Int.reduceEq, Int.reduceBEq, Int.reduceBNe, Int.reduceLT, Int.reduceLE, Int.reduceAdd, Int.reduceSub, Int.reduceNeg, Int.reduceToNat, Int.reducePow, Nat.reducePow, Int.reduceMul, Int.reduceDiv, ↓s_ref24_Model_Put, hH1, enterK_eq hb, enterK_eq hf, h1, hlen, decide_eq_true hge]
    · rw [if_neg hfull]
      have hge : ¬ (20000 : Int) ≤ (l.length : Int) := by omega
      -- the rest
      generalize hH2 : H1.push (.cells [.string a.key, .string a.value] T.api_Pair true) = H2
      have s2 : Still H1 H2 := by rw [← hH2]; exact (Fr.refl H1).push _
      have n2 : H2.n = H1.n + 1 := by rw [← hH2]; rfl
      have f2 : H2.f H1.n = .cells [.string a.key, .string a.value] T.api_Pair true := by rw [← hH2]; exact push_f_eq rfl
      have fb2 : H2.f b = .cells [v] T.ref24_Model true := by rw [s2.f h2 (fun h => h), h1]
      have o2 := h3.still s2
      obtain ⟨v75, hs75, ho75, _⟩ := o2.drop (sz := 2) rfl hpl (q := .i64)
      have rl : Rd EPr H2 (.slice (some ⟨H1.n, 0, none⟩) 1 (2 * 1)) [a] := .inr (.inr ⟨H1.n, 0, _, rfl, by simp, by omega, by rw [f2]; rfl⟩)
      obtain ⟨v76, H3, happ76, hr76, s3, _⟩ := rl.appX (e := T.api_Pair) (m := l.drop p) (sz := 2) (bytes := 32) rfl (by simp; omega) (by simp; omega) (ho75.rd.src (sz := 2) rfl) (by simp)
      have happ76 : app T.api_Pair 2 32 (.slice (some ⟨H1.n, 0, none⟩) 1 2) (srcS 2 v75 H2) H2 = some (v76, H3) := happ76
      have fb3 : H3.f b = .cells [v] T.ref24_Model true := by rw [s3.f (by omega) (fun h => h), fb2]
      have n3 : H2.n ≤ H3.n := s3.n
      obtain ⟨v83, hs83, hr83⟩ := (o2.still s3).hi (sz := 2) rfl hpl (q := .i64)
      obtain ⟨v84, H4, happ84, ho84, fr4, hb84⟩ := (Own.nil (E := EPr) (H := H3) (e := T.api_Pair)).appE (m := l.take p) (sz := 2) (bytes := 32) rfl (by simp; omega) (by simp; omega) (hr83.src (sz := 2) rfl)
      have s4 : Still H3 H4 := fr4.mono fun c _ h => by unfold OnlyOf at h; cases h
      have n4 : H3.n ≤ H4.n := s4.n
      obtain ⟨v86, H5, happ86, ho86, fr5, hb86⟩ := ho84.appE (m := a :: l.drop p) (sz := 2) (bytes := 32) rfl (by simp; omega) (by simp; omega) ((hr76.still s4).src (sz := 2) rfl)
      have hb84' : ∀ c, blockOf v84 = some c → H3.n ≤ c := fun c h => by
        rcases hb84 with hb | hb
        · rw [hb] at h; cases h
        · rw [hb] at h; cases h; exact Nat.le_refl _
      have hb86' : ∀ c, blockOf v86 = some c → H3.n ≤ c := fun c h => by
        rcases hb86 with hb | hb
        · rw [hb] at h; exact hb84' c h
        · rw [hb] at h; cases h; exact n4
      have n5 : H4.n ≤ H5.n := fr5.n
      have t3 : Still H H3 := ((s1.then s2 fun _ _ h => h).still.then s3 fun _ _ h => h)
      have t4 : Still H H4 := t3.still.then s4 fun _ _ h => h
      have t5 : Still H H5 := t4.still.then fr5 fun c hc h => by have := hb84' c h; omega
      have fb5 : H5.f b = .cells [v] T.ref24_Model true := by
        obtain ⟨v0, g1, g2, _⟩ := id r
        rw [t5.f g2 (fun h => h), g1]
        rw [s1.f g2 (fun h => h), g1] at h1
        exact h1
      have fb4 : H4.f b = .cells [v] T.ref24_Model true := by rw [s4.f (by omega) (fun h => h), fb3]
      have hone : one v86 = true := ho86.cell
      generalize hH6 : H5.set b (.cells [v86] T.ref24_Model true) = H6
      have f6 : H6.f b = .cells [v86] T.ref24_Model true := by rw [← hH6]; exact set_f_eq
      have fr6 : Fr (fun c => c = b) H5 H6 := by rw [← hH6]; exact Fr.set (Fr.refl H5) b _ fun _ => rfl
      have n6 : H6.n = H5.n := by rw [← hH6]; rfl
      have hm : MdlR H6 b (l.take p ++ a :: l.drop p) := ⟨v86, f6, by omega, ho86.keep fr6 fun c hc h => by have := hb86' c hc; omega, fun h => by have := hb86' b h; omega⟩
      obtain ⟨v0, g1, g2, g3, g4⟩ := id r
      have hup : UpT T.ref24_Model H b H6 := UpT.of g1 (t5.still.then fr6 fun c _ h => .inl h) f6 fun c hc => .inr (by have := hb86' c hc; omega)
      obtain ⟨H'', ht, hm', hf'⟩ := Mdl.tidied (v := .int .i64 0) ok r hm hup
      have hloop := hlo v h1 h3.rd (seqK (fun tT_3 h27 =>
        bareK (bldS #[(.string (mk [])), (.string (mk []))] [(0, 1), (1, 1)] [(0, (get tT_3 1)), (1, (get tT_3 2))]) h27 fun t68 h28 =>
        bothK (bldL T.api_Pair [(.string (mk [])), (.string (mk []))] 1 [(0, t68)] h28) fun t69 h29 =>
        bareK (xnilCheck (get tT_3 0)) h29 fun t71 h30 =>
        bareK (fad 0 t71) h30 fun t72 h31 =>
        bareK (ld1 h31 t72) h31 fun t73 h32 =>
        bareK (slS T.api_Pair 2 t73 (some (get tT_3 9)) none none h32) h32 fun t75 h33 =>
        bothK (app T.api_Pair 2 32 t69 (srcS 2 t75 h33) h33) fun t76 h34 =>
        bareK (xnilCheck (get tT_3 0)) h34 fun t79 h35 =>
        bareK (fad 0 t79) h35 fun t80 h36 =>
        bareK (ld1 h36 t80) h36 fun t81 h37 =>
        bareK (slS T.api_Pair 2 t81 none (some (get tT_3 9)) none h37) h37 fun t83 h38 =>
        bothK (app T.api_Pair 2 32 (.slice none 0 0) (srcS 2 t83 h38) h38) fun t84 h39 =>
        bothK (app T.api_Pair 2 32 t84 (srcS 2 t76 h39) h39) fun t86 h40 =>
        bareK (xnilCheck (get tT_3 0)) h40 fun t87 h41 =>
        bareK (fad 0 t87) h41 fun t88 h42 =>
        quietK (st1 h42 t88 t86) fun _ h43 =>
        endK Try.prog [.tmp 6] .ret [(6, (.int .i64 0))] h43) (endK Try.prog [.tmp 6])) l 0 rfl (by omega)
      rw [hp, Nat.zero_add] at hloop
      refine ⟨H'', (d_ref24_Model_Put _ _ _ H (r := (.int .i64 0, H6)) ?_).trans (congrArg some ht), hm', hf'⟩
      simp (disch := first | with_reducible rfl | assumption | omega | rfl | (simp only [go_sem]; first | done | omega)) only [go_sem, ↓reduceIte, reduceCtorEq, Nat.reduceEqDiff, Nat.reduceAdd, Nat.reduceSub, Nat.reduceMul, Nat.reduceDiv, Nat.reduceMod, Nat.reduceLeDiff, Nat.reduceLT, Nat.reduceBEq, Int.reduceEq, Int.reduceBEq, Int.reduceBNe, Int.reduceLT, Int.reduceLE, Int.reduceAdd, Int.reduceSub, Int.reduceNeg, Int.reduceToNat, Int.reducePow, Nat.reducePow, Int.reduceMul, Int.reduceDiv, ↓s_ref24_Model_Put, hH1, enterK_eq hb, enterK_eq hf, h1, hlen, decide_eq_false hge]
      refine hloop.trans ?_
      simp (disch := first | with_reducible rfl | assumption | omega | rfl | (simp only [go_sem]; first | done | omega)) only [go_sem, ↓reduceIte, reduceCtorEq, Nat.reduceEqDiff, Nat.reduceAdd, Nat.reduceSub, Nat.reduceMul, Nat.reduceDiv, Nat.reduceMod, Nat.reduceLeDiff, Nat.reduceLT, Nat.reduceBEq, Int.reduceEq, Int.reduceBEq, Int.reduceBNe, Int.reduceLT, Int.reduceLE, Int.reduceAdd, Int.reduceSub, Int.reduceNeg, Int.reduceToNat, Int.reducePow, Nat.reducePow, Int.reduceMul, Int.reduceDiv, hH2, fb2, hs75, happ76, fb3, hs83, happ84, happ86, fb5, hH6]

end Go.Proofs.Ytlagijfkkpbbnaa

/-
  Chapter 24: the reference, Insert, Delete, Swap, Part, Range, Of, Same.
  Conditions: none. By an AI agent.
-/
set_option maxRecDepth 10000
set_option linter.unusedSimpArgs false
set_option linter.unusedVariables false
namespace Go.Proofs.Ytlagijfkkpbbnaa
open Go Eng

theorem q_RInsert_bad (b : Nat) (a : Pr) (H : AHeap) (hc : chk a.key [a.value] ≠ 0) :
    CC F.ref24_Model_Insert [.pointer (some ⟨b, 0, none⟩), .string a.key, .string a.value] H = some (.int .i64 (chk a.key [a.value]), H) := by
  have hb := q_bad a.key [a.value] _ _ (rdOne a.value H) (by simp)
  generalize chk a.key [a.value] = e at hb hc
  apply pure_of _ (d_ref24_Model_Insert _ _ _ H) rfl
  rotate_left 2
  · simp (disch := first | with_reducible rfl | assumption | omega | rfl | (simp only [go_sem]; first | done | omega)) only [go_sem, ↓reduceIte, reduceCtorEq, Nat.reduceEqDiff, Nat.reduceAdd, Nat.reduceSub, Nat.reduceMul, Nat.reduceDiv, Nat.reduceMod, Nat.reduceLeDiff, Nat.reduceLT, Nat.reduceBEq, Int.reduceEq, Int.reduceBEq, Int.reduceBNe, Int.reduceLT, Int.reduceLE, Int.reduceAdd, Int.reduceSub, Int.reduceNeg, Int.reduceToNat, Int.reducePow, Nat.reducePow, Int.reduceMul, Int.reduceDiv, ↓s_ref24_Model_Insert, enterK_eq hb, hc]
    rfl
  · (repeat (first | exact Fr.refl _ | refine Fr.push ?_ _ | refine Fr.set ?_ _ _ (by intro h; first | omega | (simp only [go_sem] at h; omega))))

theorem q_RInsert (b : Nat) (l : List Pr) (a : Pr) (H : AHeap) (ok : Ok H) (r : MdlR H b l) (hs : Srt l) (hl : l.length ≤ 20000) (hc : chk a.key [a.value] = 0) :
    ∃ H', CC F.ref24_Model_Insert [.pointer (some ⟨b, 0, none⟩), .string a.key, .string a.value] H = some (.int .i64 (insertP l a (posP l a.key)).1, H') ∧ MdlR H' b (insertP l a (posP l a.key)).2 ∧ UpT T.ref24_Model H b H' := by
  generalize hH1 : H.push (.cells [.string a.value] T.string true) = H1
  have s1 : Still H H1 := by rw [← hH1]; exact (Fr.refl H).push _
  have hb := q_bad a.key [a.value] _ _ (rdOne a.value H) (by simp)
  rw [hH1, hc] at hb
  have r1 := r.still s1
  have hf := q_find b l a.key H1 r1 (by omega)
  rw [findP_eq hs] at hf
  unfold insertP
  cases his : isP l a.key (posP l a.key) with
  | true =>
    rw [his] at hf
    simp only [if_true] at hf ⊢
    generalize posP l a.key = p at hf
    have hge : (0 : Int) ≤ (p : Int) := by omega
    refine ⟨H, ?_, r, UpT.refl H b⟩
    refine pure_of (H' := H1) ?_ (d_ref24_Model_Insert _ _ _ H) rfl s1
    simp (disch := first | with_reducible rfl | assumption | omega | rfl | (simp only [go_sem]; first | done | omega)) only [go_sem, ↓reduceIte, reduceCtorEq, Nat.reduceEqDiff, Nat.reduceAdd, Nat.reduceSub, Nat.reduceMul, Nat.reduceDiv, Nat.reduceMod, Nat.reduceLeDiff, Nat.reduceLT, Nat.reduceBEq, Int.reduceEq, Int.reduceBEq, Int.reduceBNe, Int.reduceLT, Int.reduceLE, Int.reduceAdd, Int.reduceSub, Int.reduceNeg, Int.reduceToNat, Int.reducePow, Nat.reducePow, Int.reduceMul, Int.reduceDiv, ↓s_ref24_Model_Insert, hH1, enterK_eq hb, enterK_eq hf, decide_eq_true hge]
  | false =>
    rw [his] at hf
    obtain ⟨H', hput, hm, hu⟩ := q_RPut b l a H1 (ok.fr s1) r1 hs hl hc
    have e : putP l a (posP l a.key) = if l.length = 20000 then (7, l) else (0, l.take (posP l a.key) ++ a :: l.drop (posP l a.key)) := by unfold putP; rw [his]; rfl
    rw [e] at hput hm
    simp only [Bool.false_eq_true, if_false] at hf ⊢
    generalize (if l.length = 20000 then ((7 : Int), l) else (0, l.take (posP l a.key) ++ a :: l.drop (posP l a.key))) = w at hput hm ⊢
    obtain ⟨H'', ht, hm', hf'⟩ := Mdl.tidied (v := .int .i64 w.1) ok r hm (after_push r s1 hu)
    refine ⟨H'', (d_ref24_Model_Insert _ _ _ H (r := (.int .i64 w.1, H')) ?_).trans (congrArg some ht), hm', hf'⟩
    simp (disch := first | with_reducible rfl | assumption | omega | rfl | (simp only [go_sem]; first | done | omega)) only [go_sem, ↓reduceIte, reduceCtorEq, Nat.reduceEqDiff, Nat.reduceAdd, Nat.reduceSub, Nat.reduceMul, Nat.reduceDiv, Nat.reduceMod, Nat.reduceLeDiff, Nat.reduceLT, Nat.reduceBEq, Int.reduceEq, Int.reduceBEq, Int.reduceBNe, Int.reduceLT, Int.reduceLE, Int.reduceAdd, Int.reduceSub, Int.reduceNeg, Int.reduceToNat, Int.reducePow, Nat.reducePow, Int.reduceMul, Int.reduceDiv, ↓s_ref24_Model_Insert, hH1, enterK_eq hb, enterK_eq hf, enterK_eq hput]

theorem q_RDelete_bad (b : Nat) (key : ByteArray) (H : AHeap) (hc : chk key [] ≠ 0) : CC F.ref24_Model_Delete [.pointer (some ⟨b, 0, none⟩), .string key] H = some (.tuple #[.string (mk []), .int .i64 (chk key [])], H) := by
  have hg := q_RGet_bad b key H hc
  generalize chk key [] = e at hg hc
  apply pure_of _ (d_ref24_Model_Delete _ _ H) rfl
  rotate_left 2
  · simp (disch := first | with_reducible rfl | assumption | omega | rfl | (simp only [go_sem]; first | done | omega)) only [go_sem, ↓reduceIte, reduceCtorEq, Nat.reduceEqDiff, Nat.reduceAdd, Nat.reduceSub, Nat.reduceMul, Nat.reduceDiv, Nat.reduceMod, Nat.reduceLeDiff, Nat.reduceLT, Nat.reduceBEq, Int.reduceEq, Int.reduceBEq, Int.reduceBNe, Int.reduceLT, Int.reduceLE, Int.reduceAdd, Int.reduceSub, Int.reduceNeg, Int.reduceToNat, Int.reducePow, Nat.reducePow, Int.reduceMul, Int.reduceDiv, ↓s_ref24_Model_Delete, enterK_eq hg, hc]
    rfl
  · (repeat (first | exact Fr.refl _ | refine Fr.push ?_ _ | refine Fr.set ?_ _ _ (by intro h; first | omega | (simp only [go_sem] at h; omega))))

theorem q_RDelete (b : Nat) (l : List Pr) (key : ByteArray) (H : AHeap) (ok : Ok H) (r : MdlR H b l) (hs : Srt l) (hl : l.length ≤ 20000) (hc : chk key [] = 0) :
    ∃ H', CC F.ref24_Model_Delete [.pointer (some ⟨b, 0, none⟩), .string key] H = some (getP l key (posP l key), H') ∧ MdlR H' b (if isP l key (posP l key) = true then l.take (posP l key) ++ l.drop (posP l key + 1) else l) ∧ UpT T.ref24_Model H b H' := by
  have hg := q_RGet b l key H r hs (by omega) hc
  have hf := q_find b l key H r (by omega)
  rw [findP_eq hs] at hf
  unfold getP at hg ⊢
  generalize posP l key = p at hf hg ⊢
  cases his : isP l key p with
  | false =>
    rw [his] at hg
    simp only [Bool.false_eq_true, if_false] at hg ⊢
    refine ⟨H, ?_, r, UpT.refl H b⟩
    apply pure_of _ (d_ref24_Model_Delete _ _ H) rfl
    rotate_left 2
    · simp (disch := first | with_reducible rfl | assumption | omega | rfl | (simp only [go_sem]; first | done | omega)) only [go_sem, ↓reduceIte, reduceCtorEq, Nat.reduceEqDiff, Nat.reduceAdd, Nat.reduceSub, Nat.reduceMul, Nat.reduceDiv, Nat.reduceMod, Nat.reduceLeDiff, Nat.reduceLT, Nat.reduceBEq, Int.reduceEq, Int.reduceBEq, Int.reduceBNe, Int.reduceLT, Int.reduceLE, Int.reduceAdd, Int.reduceSub, Int.reduceNeg, Int.reduceToNat, Int.reducePow, Nat.reducePow, Int.reduceMul, Int.reduceDiv, ↓s_ref24_Model_Delete, enterK_eq hg]
      rfl
    · (repeat (first | exact Fr.refl _ | refine Fr.push ?_ _ | refine Fr.set ?_ _ _ (by intro h; first | omega | (simp only [go_sem] at h; omega))))
  | true =>
    have hlt := isP_lt his
    rw [his] at hg hf
    simp only [if_true] at hg hf ⊢
    generalize (l[p]?).elim (mk []) Pr.value = old at hg ⊢
    obtain ⟨v, h1, h2, h3, h4⟩ := id r
    obtain ⟨v27, hs27, hr27⟩ := h3.hi (sz := 2) rfl (Nat.le_of_lt hlt) (q := .i64)
    obtain ⟨v28, H1, happ28, ho28, fr1, hb28⟩ := (Eng.Own.nil (E := EPr) (H := H) (e := T.api_Pair)).appE (m := l.take p) (sz := 2) (bytes := 32) rfl (by simp; omega) (by simp; omega) (hr27.src (sz := 2) rfl)
    have s1 : Still H H1 := fr1.mono fun c _ h => by unfold OnlyOf at h; cases h
    have n1 : H.n ≤ H1.n := s1.n
    have fb1 : H1.f b = .cells [v] T.ref24_Model true := by rw [s1.f h2 (fun h => h), h1]
    obtain ⟨v35, hs35, ho35, _⟩ := (h3.still s1).drop (sz := 2) rfl (i := p + 1) hlt (q := .i64)
    obtain ⟨v36, H2, happ36, ho36, fr2, hb36⟩ := ho28.appE (m := l.drop (p + 1)) (sz := 2) (bytes := 32) rfl (by simp; omega) (by simp; omega) (ho35.rd.src (sz := 2) rfl)
    have hb28' : ∀ c, blockOf v28 = some c → H.n ≤ c := fun c h => by
      rcases hb28 with hb | hb
      · rw [hb] at h; cases h
      · rw [hb] at h; cases h; exact Nat.le_refl _
    have hs35 : slS T.api_Pair 2 v (some (.int .i64 ((p : Int) + 1))) none none H1 = some v35 := hs35
    have hver : H1.ver b = H.ver b := s1.ver h2 (fun h => h)
    have hnn : H.n ≤ H1.n := n1
    obtain ⟨bb, oo, cc, hv, hbb, _⟩ := h3.rd.elem hlt
    have hver2 : H1.ver bb = H.ver bb := s1.ver hbb (fun h => h)
    subst hv
    have hb36' : ∀ c, blockOf v36 = some c → H.n ≤ c := fun c h => by
      rcases hb36 with hb | hb
      · rw [hb] at h; exact hb28' c h
      · rw [hb] at h; cases h; exact n1
    have n2 : H1.n ≤ H2.n := fr2.n
    have s2 : Still H H2 := s1.still.then fr2 fun c hc h => by have := hb28' c h; omega
    have fb2 : H2.f b = .cells [.slice (some ⟨bb, oo, none⟩) l.length cc] T.ref24_Model true := by rw [s2.f h2 (fun h => h), h1]
    have hone : one v36 = true := ho36.cell
    generalize hH3 : H2.set b (.cells [v36] T.ref24_Model true) = H3
    have f3 : H3.f b = .cells [v36] T.ref24_Model true := by rw [← hH3]; exact set_f_eq
    have fr3 : Fr (fun c => c = b) H2 H3 := by rw [← hH3]; exact Fr.set (Fr.refl H2) b _ fun _ => rfl
    have n3 : H3.n = H2.n := by rw [← hH3]; rfl
    have hm : MdlR H3 b (l.take p ++ l.drop (p + 1)) := ⟨v36, f3, by omega, ho36.keep fr3 fun c hc h => by have := hb36' c hc; omega, fun h => by have := hb36' b h; omega⟩
    have hup : UpT T.ref24_Model H b H3 := UpT.of h1 (s2.still.then fr3 fun c _ h => .inl h) f3 fun c hc => .inr (hb36' c hc)
    obtain ⟨H'', ht, hm', hf'⟩ := Mdl.tidied (v := .tuple #[.string old, .int .i64 0]) ok r hm hup
    refine ⟨H'', (d_ref24_Model_Delete _ _ H (r := (.tuple #[.string old, .int .i64 0], H3)) ?_).trans (congrArg some ht), hm', hf'⟩
    simp (disch := first | with_reducible rfl | assumption | omega | rfl | (simp only [go_sem]; first | done | omega)) only [go_sem, ↓reduceIte, reduceCtorEq, Nat.reduceEqDiff, Nat.reduceAdd, Nat.reduceSub, Nat.reduceMul, Nat.reduceDiv, Nat.reduceMod, Nat.reduceLeDiff, Nat.reduceLT, Nat.reduceBEq, Int.reduceEq, Int.reduceBEq, Int.reduceBNe, Int.reduceLT, Int.reduceLE, Int.reduceAdd, Int.reduceSub, Int.reduceNeg, Int.reduceToNat, Int.reducePow, Nat.reducePow, Int.reduceMul, Int.reduceDiv, ↓s_ref24_Model_Delete, enterK_eq hg, enterK_eq hf, h1, hs27, happ28, fb1, hs35, happ36, fb2, hH3]

theorem q_RSwap_bad (b : Nat) (key old new : ByteArray) (H : AHeap) (hc : chk key [old, new] ≠ 0) :
    CC F.ref24_Model_Swap [.pointer (some ⟨b, 0, none⟩), .string key, .string old, .string new] H = some (.int .i64 (chk key [old, new]), H) := by
  have hb := q_bad key [old, new] _ _ (rdTwo old new H) (by simp)
  generalize chk key [old, new] = e at hb hc
  apply pure_of _ (d_ref24_Model_Swap _ _ _ _ H) rfl
  rotate_left 2
  · simp (disch := first | with_reducible rfl | assumption | omega | rfl | (simp only [go_sem]; first | done | omega)) only [go_sem, ↓reduceIte, reduceCtorEq, Nat.reduceEqDiff, Nat.reduceAdd, Nat.reduceSub, Nat.reduceMul, Nat.reduceDiv, Nat.reduceMod, Nat.reduceLeDiff, Nat.reduceLT, Nat.reduceBEq, Int.reduceEq, Int.reduceBEq, Int.reduceBNe, Int.reduceLT, Int.reduceLE, Int.reduceAdd, Int.reduceSub, Int.reduceNeg, Int.reduceToNat, Int.reducePow, Nat.reducePow, Int.reduceMul, Int.reduceDiv, ↓s_ref24_Model_Swap, enterK_eq hb, hc]
    rfl
  · (repeat (first | exact Fr.refl _ | refine Fr.push ?_ _ | refine Fr.set ?_ _ _ (by intro h; first | omega | (simp only [go_sem] at h; omega))))

theorem chk_two {key old new : ByteArray} (h : chk key [old, new] = 0) : chk key [] = 0 ∧ chk key [new] = 0 := by
  unfold chk at h ⊢
  by_cases h1 : bl key = []
  · simp [h1] at h
  · by_cases h2 : 24 < (bl key).length
    · simp [h1, h2] at h
    · by_cases h3 : 40 < (bl new).length
      · simp [h1, h2, h3] at h
      · simp [h1, h2, h3]

theorem q_RSwap (b : Nat) (l : List Pr) (key old new : ByteArray) (H : AHeap) (ok : Ok H) (r : MdlR H b l) (hs : Srt l) (hl : l.length ≤ 20000) (hc : chk key [old, new] = 0) :
    ∃ H', CC F.ref24_Model_Swap [.pointer (some ⟨b, 0, none⟩), .string key, .string old, .string new] H = some (.int .i64 (swapP l key old new (posP l key)).1, H') ∧ MdlR H' b (swapP l key old new (posP l key)).2 ∧ UpT T.ref24_Model H b H' := by
  obtain ⟨hc1, hc2⟩ := chk_two hc
  generalize hH1 : H.push (.cells [.string old, .string new] T.string true) = H1
  have s1 : Still H H1 := by rw [← hH1]; exact (Fr.refl H).push _
  have hb := q_bad key [old, new] _ _ (rdTwo old new H) (by simp)
  rw [hH1, hc] at hb
  have r1 := r.still s1
  have hg := q_RGet b l key H1 r1 hs (by omega) hc1
  unfold swapP
  unfold getP at hg
  cases his : isP l key (posP l key) with
  | false =>
    rw [his] at hg
    simp only [Bool.false_eq_true, if_false] at hg ⊢
    refine ⟨H, ?_, r, UpT.refl H b⟩
    refine pure_of (H' := H1) ?_ (d_ref24_Model_Swap _ _ _ _ H) rfl s1
    simp (disch := first | with_reducible rfl | assumption | omega | rfl | (simp only [go_sem]; first | done | omega)) only [go_sem, ↓reduceIte, reduceCtorEq, Nat.reduceEqDiff, Nat.reduceAdd, Nat.reduceSub, Nat.reduceMul, Nat.reduceDiv, Nat.reduceMod, Nat.reduceLeDiff, Nat.reduceLT, Nat.reduceBEq, Int.reduceEq, Int.reduceBEq, Int.reduceBNe, Int.reduceLT, Int.reduceLE, Int.reduceAdd, Int.reduceSub, Int.reduceNeg, Int.reduceToNat, Int.reducePow, Nat.reducePow, Int.reduceMul, Int.reduceDiv, ↓s_ref24_Model_Swap, hH1, enterK_eq hb, enterK_eq hg]
  | true =>
    rw [his] at hg
    simp only [if_true] at hg ⊢
    generalize (l[posP l key]?).elim (mk []) Pr.value = now at hg ⊢
    by_cases heq : bl now = bl old
    · rw [if_pos heq]
      obtain ⟨H', hput, hm, hu⟩ := q_RPut b l ⟨key, new⟩ H1 (ok.fr s1) r1 hs hl hc2
      have e : putP l ⟨key, new⟩ (posP l key) = (0, l.set (posP l key) ⟨key, new⟩) := by unfold putP; rw [if_pos his]
      simp only [e] at hput hm
      obtain ⟨H'', ht, hm', hf'⟩ := Mdl.tidied (v := .int .i64 0) ok r hm (after_push r s1 hu)
      refine ⟨H'', (d_ref24_Model_Swap _ _ _ _ H (r := (.int .i64 0, H')) ?_).trans (congrArg some ht), hm', hf'⟩
      simp (disch := first | with_reducible rfl | assumption | omega | rfl | (simp only [go_sem]; first | done | omega)) only [go_sem, ↓reduceIte, reduceCtorEq, Nat.reduceEqDiff, Nat.reduceAdd, Nat.reduceSub, Nat.reduceMul, Nat.reduceDiv, Nat.reduceMod, Nat.reduceLeDiff, Nat.reduceLT, Nat.reduceBEq, Int.reduceEq, Int.reduceBEq, Int.reduceBNe, Int.reduceLT, Int.reduceLE, Int.reduceAdd, Int.reduceSub, Int.reduceNeg, Int.reduceToNat, Int.reducePow, Nat.reducePow, Int.reduceMul, Int.reduceDiv, ↓s_ref24_Model_Swap, hH1, enterK_eq hb, enterK_eq hg, decide_eq_true heq, enterK_eq hput]
    · rw [if_neg heq]
      refine ⟨H, ?_, r, UpT.refl H b⟩
      refine pure_of (H' := H1) ?_ (d_ref24_Model_Swap _ _ _ _ H) rfl s1
      simp (disch := first | with_reducible rfl | assumption | omega | rfl | (simp only [go_sem]; first | done | omega)) only [go_sem, ↓reduceIte, reduceCtorEq, Nat.reduceEqDiff, Nat.reduceAdd, Nat.reduceSub, Nat.reduceMul, Nat.reduceDiv, Nat.reduceMod, Nat.reduceLeDiff, Nat.reduceLT, Nat.reduceBEq, Int.reduceEq, Int.reduceBEq, Int.reduceBNe, Int.reduceLT, Int.reduceLE, Int.reduceAdd, Int.reduceSub, Int.reduceNeg, Int.reduceToNat, Int.reducePow, Nat.reducePow, Int.reduceMul, Int.reduceDiv, ↓s_ref24_Model_Swap, hH1, enterK_eq hb, enterK_eq hg, decide_eq_false heq]

/-! ### Same -/
theorem l_sameP (l m : List Pr) (v w : Value) (H : AHeap) (hv : Rd EPr H v l) (hw : Rd EPr H w m) (hlm : l.length = m.length) (hl : l.length < 1152921504606846976) (K : K) : ∀ (x y : List Pr) (i : Nat), l.drop i = x → m.drop i = y →
    l_ref24_Same_0 v w (.int .i64 i) H (blkK [] 0 (seqK (fun _ h2 => K .ret [(4, .bool true)] h2) K)) = K .ret [(4, .bool (decide (x = y)))] H
  | [], y, i, hx, hy => by
    have h : l.length ≤ i := List.drop_eq_nil_iff.1 hx
    have hlt : ¬ (i : Int) < (l.length : Int) := by omega
    have hlen := hv.lenS
    have hy0 : y = [] := by rw [← hy]; exact List.drop_eq_nil_of_le (by omega)
    subst hy0
    rw [r_ref24_Same_0]
    simp (disch := first | with_reducible rfl | assumption | omega | rfl | (simp only [go_sem]; first | done | omega)) only [go_sem, ↓reduceIte, reduceCtorEq, Nat.reduceEqDiff, Nat.reduceAdd, Nat.reduceSub, Nat.reduceMul, Nat.reduceDiv, Nat.reduceMod, Nat.reduceLeDiff, Nat.reduceLT, Nat.reduceBEq, Int.reduceEq, Int.reduceBEq, Int.reduceBNe, Int.reduceLT, Int.reduceLE, Int.reduceAdd, Int.reduceSub, Int.reduceNeg, Int.reduceToNat, Int.reducePow, Nat.reducePow, Int.reduceMul, Int.reduceDiv, ↓s_ref24_Same_b0, hlen, hlt]
  | a :: x, [], i, hx, hy => by
    obtain ⟨h, _⟩ := drop_cons hx
    have h2 : m.length ≤ i := List.drop_eq_nil_iff.1 hy
    omega
  | a :: x, b :: y, i, hx, hy => by
    obtain ⟨h, hxa, hx'⟩ := drop_cons hx
    obtain ⟨h2, hyb, hy'⟩ := drop_cons hy
    have hlt : (i : Int) < (l.length : Int) := by omega
    have hlen := hv.lenS
    have ih := l_sameP l m v w H hv hw hlm hl K x y (i + 1) hx' hy'
    obtain ⟨b1, o1, hix1, _, hc1, _⟩ := hv.ix (q := .i64) h
    obtain ⟨b2, o2, hix2, _, hc2, _⟩ := hw.ix (q := .i64) h2
    rw [hxa] at hc1
    rw [hyb] at hc2
    have hix1 : ixS 2 v (.int .i64 i) = some (.pointer (some ⟨b1, o1, none⟩)) := hix1
    have hix2 : ixS 2 w (.int .i64 i) = some (.pointer (some ⟨b2, o2, none⟩)) := hix2
    have hc1 : cutB (H.f b1) o1 2 = some [.string a.key, .string a.value] := hc1
    have hc2 : cutB (H.f b2) o2 2 = some [.string b.key, .string b.value] := hc2
    rw [Int.natCast_add] at ih
    rw [r_ref24_Same_0]
    by_cases he : a = b
    · have hd : decide (a = b) = true := decide_eq_true he
      have hd2 : decide (a :: x = b :: y) = decide (x = y) := decide_eq_decide.2 (by simp [he])
      rw [hd2]
      simp (disch := first | with_reducible rfl | assumption | omega | rfl | (simp only [go_sem]; first | done | omega)) only [go_sem, ↓reduceIte, reduceCtorEq, Nat.reduceEqDiff, Nat.reduceAdd, Nat.reduceSub, Nat.reduceMul, Nat.reduceDiv, Nat.reduceMod, Nat.reduceLeDiff, Nat.reduceLT, Nat.reduceBEq, Int.reduceEq, Int.reduceBEq, Int.reduceBNe, Int.reduceLT, Int.reduceLE, Int.reduceAdd, Int.reduceSub, Int.reduceNeg, Int.reduceToNat, Int.reducePow, Nat.reducePow, Int.reduceMul, Int.reduceDiv, ↓s_ref24_Same_b0, hlen, hlt, hix1, hc1, hix2, hc2, pair_ne', hd]
      exact ih
    · have hd : decide (a = b) = false := decide_eq_false he
      have hd2 : decide (a :: x = b :: y) = false := decide_eq_false (by simp [he])
      rw [hd2]
      simp (disch := first | with_reducible rfl | assumption | omega | rfl | (simp only [go_sem]; first | done | omega)) only [go_sem, ↓reduceIte, reduceCtorEq, Nat.reduceEqDiff, Nat.reduceAdd, Nat.reduceSub, Nat.reduceMul, Nat.reduceDiv, Nat.reduceMod, Nat.reduceLeDiff, Nat.reduceLT, Nat.reduceBEq, Int.reduceEq, Int.reduceBEq, Int.reduceBNe, Int.reduceLT, Int.reduceLE, Int.reduceAdd, Int.reduceSub, Int.reduceNeg, Int.reduceToNat, Int.reducePow, Nat.reducePow, Int.reduceMul, Int.reduceDiv, ↓s_ref24_Same_b0, hlen, hlt, hix1, hc1, hix2, hc2, pair_ne', hd]

theorem q_RSame (l m : List Pr) (v w : Value) (H : AHeap) (hv : Rd EPr H v l) (hw : Rd EPr H w m) (hl : l.length < 1152921504606846976) :
    CC F.ref24_Same [v, w] H = some (.bool (decide (l = m)), H) := by
  have l1 := hv.lenS
  have l2 := hw.lenS
  by_cases hlm : l.length = m.length
  · have hloop := l_sameP l m v w H hv hw hlm hl (endK Try.prog [.tmp 4]) l m 0 rfl rfl
    have he : decide ((l.length : Int) = (m.length : Int)) = true := decide_eq_true (by omega)
    apply pure_of _ (d_ref24_Same _ _ H) rfl
    rotate_left 2
    · simp (disch := first | with_reducible rfl | assumption | omega | rfl | (simp only [go_sem]; first | done | omega)) only [go_sem, ↓reduceIte, reduceCtorEq, Nat.reduceEqDiff, Nat.reduceAdd, Nat.reduceSub, Nat.reduceMul, Nat.reduceDiv, Nat.reduceMod, Nat.reduceLeDiff, Nat.reduceLT, Nat.reduceBEq, Int.reduceEq, Int.reduceBEq, Int.reduceBNe, Int.reduceLT, Int.reduceLE, Int.reduceAdd, Int.reduceSub, Int.reduceNeg, Int.reduceToNat, Int.reducePow, Nat.reducePow, Int.reduceMul, Int.reduceDiv, ↓s_ref24_Same, l1, l2, he]
      exact hloop
    · (repeat (first | exact Fr.refl _ | refine Fr.push ?_ _ | refine Fr.set ?_ _ _ (by intro h; first | omega | (simp only [go_sem] at h; omega))))
  · have he : decide ((l.length : Int) = (m.length : Int)) = false := decide_eq_false (by omega)
    have hd : decide (l = m) = false := decide_eq_false fun h => hlm (by rw [h])
    rw [hd]
    apply pure_of _ (d_ref24_Same _ _ H) rfl
    rotate_left 2
    · simp (disch := first | with_reducible rfl | assumption | omega | rfl | (simp only [go_sem]; first | done | omega)) only [go_sem, ↓reduceIte, reduceCtorEq, Nat.reduceEqDiff, Nat.reduceAdd, Nat.reduceSub, Nat.reduceMul, Nat.reduceDiv, Nat.reduceMod, Nat.reduceLeDiff, Nat.reduceLT, Nat.reduceBEq, Int.reduceEq, Int.reduceBEq, Int.reduceBNe, Int.reduceLT, Int.reduceLE, Int.reduceAdd, Int.reduceSub, Int.reduceNeg, Int.reduceToNat, Int.reducePow, Nat.reducePow, Int.reduceMul, Int.reduceDiv, ↓s_ref24_Same, l1, l2, he]
      rfl
    · (repeat (first | exact Fr.refl _ | refine Fr.push ?_ _ | refine Fr.set ?_ _ _ (by intro h; first | omega | (simp only [go_sem] at h; omega))))

end Go.Proofs.Ytlagijfkkpbbnaa
