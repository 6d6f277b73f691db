/-
  22 texts in one (merge.py): Eng26 M1 M2 M3 M4 Ord M5 M6 P A F B C D E G I J L N O Q.
  Conditions: none. By an AI agent.
-/
import Derived.Test.YtmbppjilnnjdaaaLawCursorHoldsQ3
import Derived.Laws.StructEq

/-
  The engine, part 26: structs of plain fields, compared.
  Conditions: none. By an AI agent.
-/
namespace Go.Proofs.Ytmbppjilnnjdaaa.Eng
open Go
set_option linter.unusedVariables false
set_option linter.unusedSimpArgs false

variable {P : Program} {H : AHeap}

theorem pv_bind {α β : Type} {P : Program} : ∀ (s : Sem α) (f : α → Sem β), pv P (s.bind f) = (pv P s).bind fun a => pv P (f a)
  | .pure a, f => rfl
  | .program k, f => pv_bind (k P) f
  | .load m a k, f => rfl
  | .store m a v k, f => rfl
  | .new o k, f => rfl
  | .shape r k, f => rfl
  | .freeze a n k, f => rfl
  | .frozen a k, f => rfl
  | .getObj r k, f => rfl
  | .setObj r o k, f => rfl
  | .choose q k, f => rfl
  | .sys c k, f => rfl
  | .mark m k, f => rfl
  | .halt h, f => rfl
theorem pv_bind' {α β : Type} (s : Sem α) (f : α → Sem β) : pv P (s >>= f) = (pv P s).bind fun a => pv P (f a) := pv_bind s f
theorem pv_pure {α : Type} (a : α) : pv P (pure a : Sem α) = some a := rfl
theorem pv_program : pv P program = some P := rfl
theorem pv_ite {α : Type} {c : Prop} [Decidable c] (a b : Sem α) : pv P (if c then a else b) = if c then pv P a else pv P b := by split <;> rfl
theorem pv_und {t : TypeId} {d : TypeDesc} (h : P.underlying t = some d) : pv P (underlying t) = some d := by
  unfold underlying
  simp only [pv_bind', pv_program, Option.bind_some, h]
  rfl

def ceq : Value → Value → Bool
  | .int _ a, .int _ b => decide (a = b)
  | .string a, .string b => decide (bl a = bl b)
  | .bool a, .bool b => a == b
  | _, _ => false

def ceqs : List Value → List Value → Bool
  | [], [] => true
  | a :: x, b :: y => ceq a b && ceqs x y
  | _, _ => false

def fitC (P : Program) (t : TypeId) (v w : Value) : Bool :=
  match P.underlying t, v, w with
  | some (.int _), .int k _, .int k' _ => k == k'
  | some .string, .string _, .string _ => true
  | some .bool, .bool _, .bool _ => true
  | _, _, _ => false

def fits (P : Program) : List Field → Nat → List Value → List Value → Bool
  | [], _, [], [] => true
  | f :: fs, i, a :: x, b :: y => f.name != "_" && f.offset == i && fitC P f.type a b && fits P fs (i + 1) x y
  | _, _, _, _ => false

theorem bytes_beq (a b : ByteArray) : (a == b) = decide (bl a = bl b) := by
  rw [beq_toListBytes, ByteArray.toList_eq, ByteArray.toList_eq, Bool.beq_eq_decide_eq]
  rfl

theorem pv_cell {t : TypeId} {d : Nat} {a b : Value} (h : fitC P t a b = true) : pv P (Op.equalIn (d + 1) t a b) = some (ceq a b) := by
  unfold fitC at h
  split at h
  · rename_i k k1 x k2 y hu
    have hk : k1 = k2 := by simpa using h
    subst hk
    simp only [Op.equalIn, pv_bind', pv_und hu, Option.bind_some, if_true, pv_pure, ceq, Bool.beq_eq_decide_eq]
  · rename_i x y hu
    simp only [Op.equalIn, pv_bind', pv_und hu, Option.bind_some, pv_pure, ceq, bytes_beq]
  · rename_i x y hu
    simp only [Op.equalIn, pv_bind', pv_und hu, Option.bind_some, pv_pure, ceq]
  · cases h

theorem pv_part {t : TypeId} {a b : Value} (h : fitC P t a b = true) {xs : Array Value} {o : Nat} {v : Value} (hx : xs[o]? = some v) : pv P (part t xs o) = some v := by
  have hagg : pv P (isAgg t) = some false := by
    unfold isAgg
    unfold fitC at h
    split at h
    · rename_i hu; simp only [pv_bind', pv_und hu, Option.bind_some]; rfl
    · rename_i hu; simp only [pv_bind', pv_und hu, Option.bind_some]; rfl
    · rename_i hu; simp only [pv_bind', pv_und hu, Option.bind_some]; rfl
    · cases h
  unfold part
  simp only [pv_bind', hagg, Option.bind_some, Bool.false_eq_true, if_false, hx, pv_pure]

theorem pv_eqFields {d : Nat} : ∀ (fs : List Field) (i : Nat) (xs ys : Array Value) (x y : List Value), (∀ j, xs[i + j]? = x[j]?) → (∀ j, ys[i + j]? = y[j]?) → fits P fs i x y = true →
    pv P (Op.eqFields (d + 1) xs ys fs) = some (ceqs x y)
  | [], i, xs, ys, [], [], _, _, _ => rfl
  | f :: fs, i, xs, ys, a :: x, b :: y, hx, hy, h => by
    simp only [fits, Bool.and_eq_true, bne_iff_ne, ne_eq, beq_iff_eq] at h
    obtain ⟨⟨⟨h1, h2⟩, h3⟩, h4⟩ := h
    have ha : xs[i]? = some a := by simpa using hx 0
    have hb : ys[i]? = some b := by simpa using hy 0
    have ih := pv_eqFields (d := d) fs (i + 1) xs ys x y (fun j => by rw [show i + 1 + j = i + (j + 1) by omega, hx]; rfl) (fun j => by rw [show i + 1 + j = i + (j + 1) by omega, hy]; rfl) h4
    rw [Op.eqFields]
    simp only [ne_eq, h1, not_false_eq_true, if_true, pv_bind', h2, pv_part h3 ha, pv_part h3 hb, Option.bind_some, pv_cell h3, pv_ite, pv_pure, ih, ceqs]
    cases ceq a b <;> simp
  | [], _, _, _, _ :: _, _, _, _, h => by simp [fits] at h
  | [], _, _, _, [], _ :: _, _, _, h => by simp [fits] at h
  | _ :: _, _, _, _, [], _, _, _, h => by simp [fits] at h
  | _ :: _, _, _, _, _ :: _, [], _, _, h => by simp [fits] at h

theorem pv_equalIn_struct {d : Nat} {t : TypeId} {fs : Array Field} (xs ys : Array Value) (ht : P.underlying t = some (.struct fs)) (hp : P.stoodInHeld t = false) :
    pv P (Op.equalIn (d + 1) t (.agg xs) (.agg ys)) = pv P (Op.eqFields d xs ys fs.toList) := by
  simp only [Op.equalIn, pv_bind', pv_und ht, pv_program, Option.bind_some, hp, Bool.false_eq_true, if_false]
  rw [← Array.forIn_toList]
  generalize fs.toList = l
  clear ht
  induction l with
  | nil => simp [Op.eqFields, pv_pure]
  | cons f l ih =>
    simp only [List.forIn_cons, Op.eqFields, pv_bind', pv_ite]
    split
    · cases pv P (part f.type xs f.offset) with
      | none => rfl
      | some a =>
        simp only [Option.bind_some]
        cases pv P (part f.type ys f.offset) with
        | none => rfl
        | some b =>
          simp only [Option.bind_some]
          cases pv P (Op.equalIn d f.type a b) with
          | none => rfl
          | some r =>
            cases r
            · simp [pv_pure]
            · simp only [Option.bind_some, Bool.not_true, Bool.false_eq_true, if_false, pv_pure]
              exact ih
    · simp only [pv_pure, Option.bind_some]
      exact ih

theorem pv_equal {t : TypeId} {fs : Array Field} {xs ys : List Value} (ht : P.underlying t = some (.struct fs)) (hp : P.stoodInHeld t = false) (hf : fits P fs.toList 0 xs ys = true) :
    pv P (Op.equal t (.agg ⟨xs⟩) (.agg ⟨ys⟩)) = some (ceqs xs ys) := by
  have h := pv_equalIn_struct (P := P) (d := 9999) (t := t) ⟨xs⟩ ⟨ys⟩ ht hp
  have h2 := pv_eqFields (P := P) (d := 9998) fs.toList 0 ⟨xs⟩ ⟨ys⟩ xs ys (fun j => by simp) (fun j => by simp) hf
  exact h.trans h2

theorem agg_eq {t : TypeId} {fs : Array Field} {xs ys : List Value} {ox oy : Operand} (ht : P.underlying t = some (.struct fs)) (hp : P.stoodInHeld t = false) (hg : P.eqGuardType P.depth t = false) (hf : fits P fs.toList 0 xs ys = true)
    (g1 : gr 9 (.agg ⟨xs⟩) = true) (g2 : gr 9 (.agg ⟨ys⟩) = true) : xbin P .eql t ox oy (.agg ⟨xs⟩) (.agg ⟨ys⟩) = some (.bool (ceqs xs ys)) := by
  have e : xbin P .eql t ox oy (.agg ⟨xs⟩) (.agg ⟨ys⟩) = if gr 9 (.agg ⟨xs⟩) && gr 9 (.agg ⟨ys⟩) then pvg P (do eqGuard .eql t ox oy (.agg ⟨xs⟩) (.agg ⟨ys⟩); binOp .eql t (.agg ⟨xs⟩) (.agg ⟨ys⟩)) else (nilTest P t (.agg ⟨xs⟩) (.agg ⟨ys⟩)).map .bool := rfl
  rw [e, g1, g2]
  simp only [Bool.and_self, if_true]
  refine pvg_some ?_ rfl
  simp only [eqGuard, binOp, pv_bind', pv_program, Option.bind_some, hg, Bool.not_false, if_true, pv_pure, Bool.not_true, Bool.false_eq_true, if_false, pv_equal ht hp hf]
theorem agg_ne {t : TypeId} {fs : Array Field} {xs ys : List Value} {ox oy : Operand} (ht : P.underlying t = some (.struct fs)) (hp : P.stoodInHeld t = false) (hg : P.eqGuardType P.depth t = false) (hf : fits P fs.toList 0 xs ys = true)
    (g1 : gr 9 (.agg ⟨xs⟩) = true) (g2 : gr 9 (.agg ⟨ys⟩) = true) : xbin P .neq t ox oy (.agg ⟨xs⟩) (.agg ⟨ys⟩) = some (.bool (!ceqs xs ys)) := by
  have e : xbin P .neq t ox oy (.agg ⟨xs⟩) (.agg ⟨ys⟩) = if gr 9 (.agg ⟨xs⟩) && gr 9 (.agg ⟨ys⟩) then pvg P (do eqGuard .neq t ox oy (.agg ⟨xs⟩) (.agg ⟨ys⟩); binOp .neq t (.agg ⟨xs⟩) (.agg ⟨ys⟩)) else (nilTest P t (.agg ⟨xs⟩) (.agg ⟨ys⟩)).map fun b => .bool !b := rfl
  rw [e, g1, g2]
  simp only [Bool.and_self, if_true]
  refine pvg_some ?_ rfl
  simp only [eqGuard, binOp, pv_bind', pv_program, Option.bind_some, hg, Bool.not_false, if_true, pv_pure, Bool.not_true, Bool.false_eq_true, if_false, pv_equal ht hp hf]

/-! ### With fuel again: for what the kernel can reckon -/
def finLP (n : Nat) : LoopH := fun body keep T H k => dLoopK body keep n T H k

theorem dCodeL_fin {P : Program} {N n : Nat} {call : CallF} : ∀ (c : DCode), PieceK (dCode P N call n c) (dCodeL stdL P N call (finLP n) c)
  | .skip => fun _ _ _ => rfl
  | .region id ops draw => fun T H k => dCodeK_eq (P := P) (N := N) (call := call) (n := n) (.region id ops draw) T H k
  | .seq a b => fun T H k => by
    rw [dCodeL, dCode, dCodeL_fin a]
    cases dCode P N call n a T H with
    | none => rfl
    | some r =>
      obtain ⟨e, T', H'⟩ := r
      cases e with
      | normal => simp only [Option.bind_some, seqK]; exact dCodeL_fin b T' H' k
      | exit i => rfl
      | ret => rfl
  | .cond keep c x y => fun T H k => by
    rw [dCodeL, dCode, stdL_c]
    unfold condL
    cases ev T c with
    | bool b =>
      cases b with
      | true =>
        have hx := dCodeL_fin (P := P) (N := N) (call := call) (n := n) x T H (afterK keep k)
        simp only [if_true]
        rw [hx]
        cases dCode P N call n x T H with
        | none => rfl
        | some r => obtain ⟨e, T', H'⟩ := r; cases e <;> rfl
      | false =>
        have hy := dCodeL_fin (P := P) (N := N) (call := call) (n := n) y T H (afterK keep k)
        simp only [Bool.false_eq_true, if_false]
        rw [hy]
        cases dCode P N call n y T H with
        | none => rfl
        | some r => obtain ⟨e, T', H'⟩ := r; cases e <;> rfl
    | _ => rfl
  | .block keep id b => fun T H k => by
    rw [dCodeL, dCode, stdL_s]
    unfold shareL
    dsimp only
    rw [dCodeL_fin b]
    cases dCode P N call n b T H with
    | none => rfl
    | some r =>
      obtain ⟨e, T', H'⟩ := r
      cases e with
      | normal => rfl
      | exit j => simp only [Option.bind_some, Option.map_some, blkK]; split <;> rfl
      | ret => rfl
  | .loop keep b => fun T H k => by
    rw [dCodeL, dCode]
    exact dLoopK_eq (dCodeL_fin b) keep n T H k
  | .exit id => fun _ _ _ => rfl
  | .ret keep => fun _ _ _ => rfl
  | .bad c => fun _ _ _ => rfl

theorem dBody_fin {hints : Hints} {call : CallF} {n : Nat} {f : FuncId} {args : List Value} : dBody P hints call n f args H = dBodyL stdL P hints call (finLP n) f args H := by
  unfold dBody dBodyL
  cases hf : P.funcs[f]? with
  | none => rfl
  | some fn =>
    simp only
    cases hb : fn.body with
    | none => rfl
    | some c =>
      simp only
      rw [dCodeL_fin]
      congr 1
      funext r
      obtain ⟨x, T, H⟩ := r
      cases x with
      | normal => simp only [endK]; rw [resValsK_eq]; cases resVals P H T _ <;> rfl
      | exit i => rfl
      | ret => simp only [endK]; rw [resValsK_eq]; cases resVals P H T _ <;> rfl

/-- A law's run, by the value alone. -/
theorem run_fst {prims : Prims} {hints : Hints} {n : Nat} {f : FuncId} {args : List Value} (hp : prims f = none) (h : (dBodyL stdL P hints (dCall P prims hints n) (finLP n) f args H).map (·.1) = some (.bool true)) :
    ∃ k H', dCall P prims hints k f args H = some (.bool true, H') := by
  refine ⟨n + 1, ?_⟩
  have e : dCall P prims hints (n + 1) f args H = (dBody P hints (dCall P prims hints n) n f args H).map (tidy H) := by simp only [dCall, hp]
  rw [e, dBody_fin]
  cases hq : dBodyL stdL P hints (dCall P prims hints n) (finLP n) f args H with
  | none => rw [hq] at h; cases h
  | some r =>
    rw [hq] at h
    obtain ⟨v, H1⟩ := r
    simp at h
    subst h
    simp only [Option.map_some, tidy]
    split <;> exact ⟨_, rfl⟩

end Go.Proofs.Ytmbppjilnnjdaaa.Eng

/-
  The plain map: strings compared; slices of pairs: Clone, Insert, Delete.
  Conditions: none. By an AI agent.
-/
set_option maxRecDepth 10000
set_option linter.unusedSimpArgs false
set_option linter.unusedVariables false
namespace Go.Proofs.Ytmbppjilnnjdaaa
open Go Eng

theorem k_known (H : AHeap) : CC F.law_known [] H = some (.bool true, H) := D_prim (show prims1 F.law_known = some trueP by kernel_rfl) rfl
@[go_sem, go_sem ↓] theorem e_known {H : AHeap} {k : Value → AHeap → Res} : enterK CC F.law_known [] H k = k (.bool true) H := enterK_eq (k_known H)
@[go_sem] theorem bool_ne {ox oy : Operand} {a b : Bool} : xbin Try.prog .neq T.bool ox oy (.bool a) (.bool b) = some (.bool (a != b)) := by
  cases a <;> cases b <;> kernel_rfl
@[go_sem] theorem mp_nil {ox oy : Operand} : xbin Try.prog .eql T.p_model_Model ox oy (.pointer none) (.pointer none) = some (.bool true) := by kernel_rfl
@[go_sem] theorem mp_some {ox oy : Operand} {a : Addr} : xbin Try.prog .eql T.p_model_Model ox oy (.pointer (some a)) (.pointer none) = some (.bool false) := by kernel_rfl

/-- A pair. -/
structure Pr where
  key : ByteArray
  value : ByteArray

def EPr : Enc Pr := ⟨2, fun a => [.string a.key, .string a.value], fun _ => rfl, by decide, fun _ => rfl⟩
def EStr : Enc ByteArray := ⟨1, fun a => [.string a], fun _ => rfl, by decide, fun _ => rfl⟩

/-! Comparing -/
def cmpS (a b : ByteArray) : Int := Lib.compareBytes (bl a) (bl b)

theorem q_CompareString (a b : ByteArray) (H : AHeap) : CC F.internal_bytealg_CompareString [.string a, .string b] H = some (.int .i64 (cmpS a b), H) := by
  have h : ∀ H, xext Try.prog Try.f67 [.string a, .string b] H = some (.int .i64 (cmpS a b)) := fun H => by kernel_rfl
  apply pure_of _ (d_internal_bytealg_CompareString _ _ H) rfl
  rotate_left 2
  · simp (disch := first | with_reducible rfl | assumption | omega | rfl | (simp only [go_sem]; first | done | omega)) only [go_sem, ↓reduceIte, reduceCtorEq, Nat.reduceEqDiff, Nat.reduceAdd, Nat.reduceSub, Nat.reduceMul, Nat.reduceDiv, Nat.reduceMod, Nat.reduceLeDiff, Nat.reduceLT, Nat.reduceBEq, Int.reduceEq, Int.reduceBEq, Int.reduceBNe, Int.reduceLT, Int.reduceLE, Int.reduceAdd, Int.reduceSub, Int.reduceNeg, Int.reduceToNat, Int.reducePow, Nat.reducePow, Int.reduceMul, Int.reduceDiv, ↓s_internal_bytealg_CompareString, h]
    rfl
  · (repeat (first | exact Fr.refl _ | refine Fr.push ?_ _ | refine Fr.set ?_ _ _ (by intro h; first | omega | (simp only [go_sem] at h; omega))))
@[go_sem, go_sem ↓] theorem e_CompareString (a b : ByteArray) (H : AHeap) {k : Value → AHeap → Res} : enterK CC F.internal_bytealg_CompareString [.string a, .string b] H k = k (.int .i64 (cmpS a b)) H := enterK_eq (q_CompareString a b H)
theorem q_SCompare (a b : ByteArray) (H : AHeap) : CC F.strings_Compare [.string a, .string b] H = some (.int .i64 (cmpS a b), H) := by
  apply pure_of _ (d_strings_Compare _ _ H) rfl
  rotate_left 2
  · simp (disch := first | with_reducible rfl | assumption | omega | rfl | (simp only [go_sem]; first | done | omega)) only [go_sem, ↓reduceIte, reduceCtorEq, Nat.reduceEqDiff, Nat.reduceAdd, Nat.reduceSub, Nat.reduceMul, Nat.reduceDiv, Nat.reduceMod, Nat.reduceLeDiff, Nat.reduceLT, Nat.reduceBEq, Int.reduceEq, Int.reduceBEq, Int.reduceBNe, Int.reduceLT, Int.reduceLE, Int.reduceAdd, Int.reduceSub, Int.reduceNeg, Int.reduceToNat, Int.reducePow, Nat.reducePow, Int.reduceMul, Int.reduceDiv, ↓s_strings_Compare, e_CompareString]
    rfl
  · (repeat (first | exact Fr.refl _ | refine Fr.push ?_ _ | refine Fr.set ?_ _ _ (by intro h; first | omega | (simp only [go_sem] at h; omega))))
@[go_sem, go_sem ↓] theorem e_SCompare (a b : ByteArray) (H : AHeap) {k : Value → AHeap → Res} : enterK CC F.strings_Compare [.string a, .string b] H k = k (.int .i64 (cmpS a b)) H := enterK_eq (q_SCompare a b H)
theorem q_KCompare (a b : ByteArray) (H : AHeap) : CC F.keys_Compare [.string a, .string b] H = some (.int .i64 (cmpS a b), H) := by
  apply pure_of _ (d_keys_Compare _ _ H) rfl
  rotate_left 2
  · simp (disch := first | with_reducible rfl | assumption | omega | rfl | (simp only [go_sem]; first | done | omega)) only [go_sem, ↓reduceIte, reduceCtorEq, Nat.reduceEqDiff, Nat.reduceAdd, Nat.reduceSub, Nat.reduceMul, Nat.reduceDiv, Nat.reduceMod, Nat.reduceLeDiff, Nat.reduceLT, Nat.reduceBEq, Int.reduceEq, Int.reduceBEq, Int.reduceBNe, Int.reduceLT, Int.reduceLE, Int.reduceAdd, Int.reduceSub, Int.reduceNeg, Int.reduceToNat, Int.reducePow, Nat.reducePow, Int.reduceMul, Int.reduceDiv, ↓s_keys_Compare, e_SCompare]
    rfl
  · (repeat (first | exact Fr.refl _ | refine Fr.push ?_ _ | refine Fr.set ?_ _ _ (by intro h; first | omega | (simp only [go_sem] at h; omega))))
@[go_sem, go_sem ↓] theorem e_KCompare (a b : ByteArray) (H : AHeap) {k : Value → AHeap → Res} : enterK CC F.keys_Compare [.string a, .string b] H k = k (.int .i64 (cmpS a b)) H := enterK_eq (q_KCompare a b H)

@[go_sem] theorem sl_nil_Pair {ox oy : Operand} : xbin Try.prog .eql T.sl_api_Pair ox oy (.slice none 0 0) (.slice none 0 0) = some (.bool true) := by kernel_rfl
@[go_sem] theorem sl_some_Pair {ox oy : Operand} {a : Addr} {n c : Nat} : xbin Try.prog .eql T.sl_api_Pair ox oy (.slice (some a) n c) (.slice none 0 0) = some (.bool false) := by kernel_rfl

theorem q_clone_Pair (l : List Pr) (v : Value) (H : AHeap) (hr : Rd EPr H v l) (hl : l.length ≤ 1000000000000) :
    ∃ v' H', CC F.slices_Clone_Pair [v] H = some (v', H') ∧ Own EPr H' T.api_Pair v' l ∧ Still H H' ∧ ∀ b, blockOf v' = some b → H.n ≤ b := by
  have hsrc : ∀ H1, Still H H1 → srcS 2 v H1 = some (l.length, EPr.cells l) := fun H1 h => (hr.still h).src rfl
  have s1 : Still H (H.push (.cells [] T.api_Pair true)) := (Fr.refl H).push _
  have hs := hsrc _ s1
  by_cases hn : v = .slice none 0 0
  · have hl0 : l = [] := by
      rcases hr with h | h | ⟨b, o, c, h, _⟩
      · exact h.1
      · exact h.1
      · rw [hn] at h; cases h
    subst hn hl0
    refine ⟨.slice none 0 0, H, ?_, .inl ⟨rfl, rfl⟩, Fr.refl H, fun b h => by cases h⟩
    apply pure_of _ (d_slices_Clone_Pair _ H) rfl
    rotate_left 2
    · simp (disch := first | with_reducible rfl | assumption | omega | rfl | (simp only [go_sem]; first | done | omega)) only [go_sem, ↓reduceIte, reduceCtorEq, Nat.reduceEqDiff, Nat.reduceAdd, Nat.reduceSub, Nat.reduceMul, Nat.reduceDiv, Nat.reduceMod, Nat.reduceLeDiff, Nat.reduceLT, Nat.reduceBEq, Int.reduceEq, Int.reduceBEq, Int.reduceBNe, Int.reduceLT, Int.reduceLE, Int.reduceAdd, Int.reduceSub, Int.reduceNeg, Int.reduceToNat, Int.reducePow, Nat.reducePow, Int.reduceMul, Int.reduceDiv, ↓s_slices_Clone_Pair]
      rfl
    · (repeat (first | exact Fr.refl _ | refine Fr.push ?_ _ | refine Fr.set ?_ _ _ (by intro h; first | omega | (simp only [go_sem] at h; omega))))
  · obtain ⟨a, n, c, hv⟩ : ∃ a n c, v = .slice (some a) n c := by
      rcases hr with h | ⟨_, a, k, h, _⟩ | ⟨b, o, c, h, _⟩
      · exact absurd h.2 hn
      · exact ⟨_, _, _, h⟩
      · exact ⟨_, _, _, h⟩
    have hnil : ∀ ox oy, xbin Try.prog .eql T.sl_api_Pair ox oy v (.slice none 0 0) = some (.bool false) := fun ox oy => by rw [hv]; exact sl_some_Pair
    have ho : Own EPr (H.push (.cells [] T.api_Pair true)) T.api_Pair (.slice (some ⟨H.n, 0, none⟩) 0 0) [] := .inr (.inl ⟨rfl, _, rfl, rfl, by simp⟩)
    by_cases hl0 : l = []
    · subst hl0
      refine ⟨.slice (some ⟨H.n, 0, none⟩) 0 0, H.push (.cells [] T.api_Pair true), ?_, ho, s1, fun b h => by cases h; exact Nat.le_refl _⟩
      have happ : app T.api_Pair 2 32 (.slice (some ⟨H.n, 0, none⟩) 0 0) (srcS 2 v (H.push (.cells [] T.api_Pair true))) (H.push (.cells [] T.api_Pair true)) = some (.slice (some ⟨H.n, 0, none⟩) 0 0, H.push (.cells [] T.api_Pair true)) := by rw [hs]; rfl
      refine (d_slices_Clone_Pair _ H ?_).trans (congrArg some (tidy_mem (v := .slice (some ⟨H.n, 0, none⟩) 0 0) (H' := H.push (.cells [] T.api_Pair true)) rfl))
      simp (disch := first | with_reducible rfl | assumption | omega | rfl | (simp only [go_sem]; first | done | omega)) only [go_sem, ↓reduceIte, reduceCtorEq, Nat.reduceEqDiff, Nat.reduceAdd, Nat.reduceSub, Nat.reduceMul, Nat.reduceDiv, Nat.reduceMod, Nat.reduceLeDiff, Nat.reduceLT, Nat.reduceBEq, Int.reduceEq, Int.reduceBEq, Int.reduceBNe, Int.reduceLT, Int.reduceLE, Int.reduceAdd, Int.reduceSub, Int.reduceNeg, Int.reduceToNat, Int.reducePow, Nat.reducePow, Int.reduceMul, Int.reduceDiv, ↓s_slices_Clone_Pair, hnil, happ]
    · obtain ⟨v', H', happ, hown, hfr, hb, hg⟩ := ho.app (m := l) hl0 (sz := 2) (bytes := 32) rfl (by simp; omega) (by simp; omega) hs
      refine ⟨v', H', ?_, hown, ?_, ?_⟩
      · refine (d_slices_Clone_Pair _ H ?_).trans (congrArg some (tidy_mem (v := v') (H' := H') hg))
        simp (disch := first | with_reducible rfl | assumption | omega | rfl | (simp only [go_sem]; first | done | omega)) only [go_sem, ↓reduceIte, reduceCtorEq, Nat.reduceEqDiff, Nat.reduceAdd, Nat.reduceSub, Nat.reduceMul, Nat.reduceDiv, Nat.reduceMod, Nat.reduceLeDiff, Nat.reduceLT, Nat.reduceBEq, Int.reduceEq, Int.reduceBEq, Int.reduceBNe, Int.reduceLT, Int.reduceLE, Int.reduceAdd, Int.reduceSub, Int.reduceNeg, Int.reduceToNat, Int.reducePow, Nat.reducePow, Int.reduceMul, Int.reduceDiv, ↓s_slices_Clone_Pair, hnil, happ]
      · refine s1.then hfr fun b hb h => ?_
        unfold OnlyOf at h
        simp [blockOf] at h
        omega
      · intro b h
        rcases hb with hb | hb
        · rw [hb] at h
          simp [blockOf] at h
          omega
        · rw [hb] at h
          simp at h
          omega

/-! ### Insert -/
theorem ins_loop_Pair : noLoop (codeOf Try.prog hints F.slices_Insert_Pair) = true := by kernel_rfl

theorem q_insert_Pair (l : List Pr) (v : Value) (a : Pr) (bv i : Nat) (H : AHeap) (hr : Own EPr H T.api_Pair v l) (hl : l.length ≤ 1000000000000) (hi : i ≤ l.length) (hbn : bv < H.n) (hbv : H.f bv = .cells [.string a.key, .string a.value] T.api_Pair true) (hne : blockOf v ≠ some bv) :
    ∃ v' H', CC F.slices_Insert_Pair [v, .int .i64 (i : Int), .slice (some ⟨bv, 0, none⟩) 1 2] H = some (v', H') ∧ Own EPr H' T.api_Pair v' (l.take i ++ a :: l.drop i) ∧ Fr (OnlyOf v) H H' ∧
      (blockOf v' = blockOf v ∨ ∃ b, blockOf v' = some b ∧ H.n ≤ b) := by
  have hp : prims1 F.slices_Insert_Pair = some (insP Try.prog hints 55 54 zIns0) := by kernel_rfl
  have hsrc : srcS 2 (.slice (some ⟨bv, 0, none⟩) 1 2) H = some ([a].length, EPr.cells [a]) := by
    unfold srcS
    simp only [cut_b, hbv, Nat.one_ne_zero, if_false]
    rfl
  by_cases hin : i = l.length
  · subst hin
    obtain ⟨v', H', happ, hown, hfr, hb, hg⟩ := hr.app (m := [a]) (by simp) (sz := 2) (bytes := 32) rfl (by simp; omega) (by simp; omega) hsrc
    obtain ⟨w, hw, _, _⟩ := hr.drop (sz := 2) (q := .i64) rfl (Nat.le_refl l.length)
    have hlen := hr.rd.lenS
    refine ⟨v', H', ?_, by simpa using hown, hfr, hb.imp id fun h => ⟨_, h, Nat.le_refl _⟩⟩
    refine D_prim hp ?_
    have hbody : dBody Try.prog hints (fun _ _ _ => none) 1 F.slices_Insert_Pair [v, .int .i64 (l.length : Int), .slice (some ⟨bv, 0, none⟩) 1 2] H = some (v', H') := by
      rw [dBody_noLoop ins_loop_Pair, s_slices_Insert_Pair_eq]
      show s_slices_Insert_Pair guardK condL shareL Try.prog _ _ _ _ H _ = _
      simp (disch := first | with_reducible rfl | assumption | omega | rfl | (simp only [go_sem]; first | done | omega)) only [go_sem, ↓reduceIte, reduceCtorEq, Nat.reduceEqDiff, Nat.reduceAdd, Nat.reduceSub, Nat.reduceMul, Nat.reduceDiv, Nat.reduceMod, Nat.reduceLeDiff, Nat.reduceLT, Nat.reduceBEq, Int.reduceEq, Int.reduceBEq, Int.reduceBNe, Int.reduceLT, Int.reduceLE, Int.reduceAdd, Int.reduceSub, Int.reduceNeg, Int.reduceToNat, Int.reducePow, Nat.reducePow, Int.reduceMul, Int.reduceDiv, ↓s_slices_Insert_Pair, hw, hlen, happ]
    show (match dBody Try.prog hints (fun _ _ _ => none) 1 F.slices_Insert_Pair [v, .int .i64 (l.length : Int), .slice (some ⟨bv, 0, none⟩) 1 2] H with
      | some r => some r
      | none => _) = _
    rw [hbody]
  · have hilt : i < l.length := by omega
    rcases hr with ⟨h, _⟩ | ⟨h, _⟩ | ⟨b, o, c, xs, rfl, hlc, hb, hf, ho, hx⟩
    · subst h; simp at hilt
    · subst h; simp at hilt
    · have hneb : bv ≠ b := fun h => hne (by rw [h]; rfl)
      obtain ⟨v', H', hins, hown, hfr, hbl⟩ := insS_own (P := Try.prog) (E := EPr) (l := l) (el := T.api_Pair) (z := zIns0) (b := b) (o := o) (c := c) (i := i) (bv := bv) (ov := 0) (cv := 2) (m := [a]) rfl rfl hlc hb hf ho hx hilt (by simp) hbv hneb (by kernel_rfl) (show 0 + 1 * 2 ≤ 2 by decide) rfl
        (by rw [show Try.prog.bytesOf T.api_Pair = 32 by kernel_rfl]; simp; omega) (by simp; omega)
      refine ⟨v', H', ?_, hown, hfr.mono fun x _ h => by rw [h]; rfl, hbl.imp id fun h => ⟨_, h, Nat.le_refl _⟩⟩
      refine D_prim hp ?_
      have hlo : slS T.api_Pair 2 (.slice (some ⟨b, o, none⟩) l.length (2 * c + 1)) (some (.int .i64 (i : Int))) none none H = some (.slice (some ⟨b, o + i * 2, none⟩) (l.length - i) (2 * (c - i) + 1)) := sl_lo hf hi hlc
      have hne' : ¬ (i : Int) = (l.length : Int) := by omega
      have hbody : dBody Try.prog hints (fun _ _ _ => none) 1 F.slices_Insert_Pair [.slice (some ⟨b, o, none⟩) l.length (2 * c + 1), .int .i64 (i : Int), .slice (some ⟨bv, 0, none⟩) 1 2] H = none := by
        rw [dBody_noLoop ins_loop_Pair, s_slices_Insert_Pair_eq]
        show s_slices_Insert_Pair guardK condL shareL Try.prog _ _ _ _ H _ = _
        simp (disch := first | with_reducible rfl | assumption | omega | rfl | (simp only [go_sem]; first | done | omega)) only [go_sem, ↓reduceIte, reduceCtorEq, Nat.reduceEqDiff, Nat.reduceAdd, Nat.reduceSub, Nat.reduceMul, Nat.reduceDiv, Nat.reduceMod, Nat.reduceLeDiff, Nat.reduceLT, Nat.reduceBEq, Int.reduceEq, Int.reduceBEq, Int.reduceBNe, Int.reduceLT, Int.reduceLE, Int.reduceAdd, Int.reduceSub, Int.reduceNeg, Int.reduceToNat, Int.reducePow, Nat.reducePow, Int.reduceMul, Int.reduceDiv, ↓s_slices_Insert_Pair, hlo, hne', cap_odd]
      show (match dBody Try.prog hints (fun _ _ _ => none) 1 F.slices_Insert_Pair [.slice (some ⟨b, o, none⟩) l.length (2 * c + 1), .int .i64 (i : Int), .slice (some ⟨bv, 0, none⟩) 1 2] H with
        | some r => some r
        | none => _) = _
      rw [hbody]
      exact hins

/-! ### Delete -/
theorem zrow_Pair : zrow Try.prog T.api_Pair = some [.string (mk []), .string (mk [])] := by kernel_rfl
theorem clear_Pair {b o n c : Nat} {H : AHeap} (hn : n ≠ 0) : xclear Try.prog [T.sl_api_Pair] (.slice (some ⟨b, o, none⟩) n c) H = (setB H b (wrL (H.f b) o (zeros [.string (mk []), .string (mk [])] n))).map fun H' => (.tuple #[], H') := by
  have h : Try.prog.underlying T.sl_api_Pair = some (.slice T.api_Pair) := Try.underlying33
  unfold xclear
  simp only [h, hn, if_false, zrow_Pair, Option.bind_some, stL_b]

theorem q_delete_Pair (l : List Pr) (v : Value) (i : Nat) (H : AHeap) (hr : Own EPr H T.api_Pair v l) (hl : l.length ≤ 1000000000000) (hi : i < l.length) :
    ∃ v' H', CC F.slices_Delete_Pair [v, .int .i64 (i : Int), .int .i64 ((i : Int) + 1)] H = some (v', H') ∧ Own EPr H' T.api_Pair v' (l.take i ++ l.drop (i + 1)) ∧ Fr (OnlyOf v) H H' ∧ blockOf v' = blockOf v := by
  rcases hr with ⟨h, _⟩ | ⟨h, _⟩ | ⟨b, o, c, xs, rfl, hlc, hb, hf, ho, hx⟩
  · subst h; simp at hi
  · subst h; simp at hi
  · have hw : EPr.w = 2 := rfl
    rw [hw] at ho hx
    have hne : ¬ (i : Int) = (i : Int) + 1 := by omega
    have hmul : l.length * 2 ≤ c * 2 := Nat.mul_le_mul_right _ hlc
    have e1 : slS T.api_Pair 2 (.slice (some ⟨b, o, none⟩) l.length (2 * c + 1)) (some (.int .i64 (i : Int))) (some (.int .i64 ((i : Int) + 1))) (some (.int .i64 (l.length : Int))) H = some (.slice (some ⟨b, if l.length = i then o else o + i * 2, none⟩) (i + 1 - i) (2 * (l.length - i))) :=
      sl_three (H := H) (e := T.api_Pair) (sz := 2) (i := i) (j := i + 1) (by omega) hi hlc
    have e2 : slS T.api_Pair 2 (.slice (some ⟨b, o, none⟩) l.length (2 * c + 1)) none (some (.int .i64 (i : Int))) none H = some (.slice (some ⟨b, o, none⟩) i (2 * c + 1)) := sl_hi hf (by omega)
    have e3 : slS T.api_Pair 2 (.slice (some ⟨b, o, none⟩) l.length (2 * c + 1)) (some (.int .i64 ((i : Int) + 1))) none none H = some (.slice (some ⟨b, o + (i + 1) * 2, none⟩) (l.length - (i + 1)) (2 * (c - (i + 1)) + 1)) :=
      sl_lo (H := H) (e := T.api_Pair) (sz := 2) (i := i + 1) hf hi hlc
    -- what is appended
    obtain ⟨ys, hys, e4⟩ : ∃ ys, ys = spl xs (o + i * 2) (EPr.cells (l.drop (i + 1))) ∧ app T.api_Pair 2 32 (.slice (some ⟨b, o, none⟩) i (2 * c + 1)) (srcS 2 (.slice (some ⟨b, o + (i + 1) * 2, none⟩) (l.length - (i + 1)) (2 * (c - (i + 1)) + 1)) H) H =
        some (.slice (some ⟨b, o, none⟩) (l.length - 1) (2 * c + 1), if l.length = i + 1 then H else H.set b (.cells ys T.api_Pair true)) := by
      refine ⟨_, rfl, ?_⟩
      have hsrc : srcS 2 (.slice (some ⟨b, o + (i + 1) * 2, none⟩) (l.length - (i + 1)) (2 * (c - (i + 1)) + 1)) H = some (l.length - (i + 1), EPr.cells (l.drop (i + 1))) := by
        unfold srcS
        by_cases h0 : l.length - (i + 1) = 0
        · rw [List.drop_eq_nil_of_le (by omega)]
          simp only [h0, if_true]
          rfl
        · simp only [h0, if_false, cut_b, hf]
          have hd : (xs.drop (o + (i + 1) * 2)).take ((l.length - (i + 1)) * 2) = EPr.cells (l.drop (i + 1)) := by
            have := EPr.cells_drop l (i + 1)
            rw [hw] at this
            rw [← this, ← hx, List.drop_take, List.drop_drop, Nat.sub_mul]
          rw [cutB_c (by omega), hd]
          rfl
      rw [hsrc]
      by_cases h0 : l.length = i + 1
      · rw [if_pos h0]
        unfold app
        simp only [Option.bind_some, show l.length - (i + 1) = 0 by omega, if_true]
        rw [show l.length - 1 = i by omega]
      · rw [if_neg h0]
        unfold app
        have hlen : (EPr.cells (l.drop (i + 1))).length = (l.length - (i + 1)) * 2 := by rw [EPr.cells_len, List.length_drop, hw]
        simp only [Option.bind_some, show ¬ l.length - (i + 1) = 0 by omega, if_false, show ¬ ((i + (l.length - (i + 1))) * 32 > 140737488355328 ∨ i + (l.length - (i + 1)) > 140737488355328) by omega, show i + (l.length - (i + 1)) ≤ (2 * c + 1) / 2 by omega, if_true, stL_b, hf]
        rw [wrL_c (by rw [hlen]; omega) (EPr.cells_one _), setB_s]
        simp only [Option.map_some]
        rw [show i + (l.length - (i + 1)) = l.length - 1 by omega]
    have hysl : ys.length = xs.length := by rw [hys, spl_length]
    generalize hH1 : (if l.length = i + 1 then H else H.set b (.cells ys T.api_Pair true)) = H1 at e4
    obtain ⟨zs, hzs, hzl, f1⟩ : ∃ zs, (zs = ys) ∧ zs.length = xs.length ∧ H1.f b = .cells zs T.api_Pair true := by
      rw [← hH1]
      by_cases h0 : l.length = i + 1
      · rw [if_pos h0]
        refine ⟨xs, ?_, rfl, hf⟩
        rw [hys, List.drop_eq_nil_of_le (by omega)]
        rfl
      · rw [if_neg h0]
        exact ⟨ys, rfl, hysl, set_f_eq⟩
    subst hzs
    have fr1 : Fr (OnlyOf (.slice (some ⟨b, o, none⟩) l.length (2 * c + 1))) H H1 := by
      rw [← hH1]
      split
      · exact Fr.refl _
      · exact Fr.set (Fr.refl _) _ _ fun _ => rfl
    have e5 : slS T.api_Pair 2 (.slice (some ⟨b, o, none⟩) (l.length - 1) (2 * c + 1)) (some (.int .i64 ((l.length - 1 : Nat) : Int))) (some (.int .i64 (l.length : Int))) none H1 = some (.slice (some ⟨b, o + (l.length - 1) * 2, none⟩) (l.length - (l.length - 1)) (2 * (c - (l.length - 1)) + 1)) := sl_lohi f1 (by omega) hlc
    have e6 : l.length - (l.length - 1) = 1 := by omega
    have hn1 : b < H1.n := Nat.lt_of_lt_of_le hb fr1.n
    refine ⟨.slice (some ⟨b, o, none⟩) (l.length - 1) (2 * c + 1), H1.set b (.cells (spl zs (o + (l.length - 1) * 2) [.string (mk []), .string (mk [])]) T.api_Pair true), ?_, ?_, Fr.set fr1 _ _ fun _ => rfl, rfl⟩
    · refine (d_slices_Delete_Pair _ _ _ H (r := (.slice (some ⟨b, o, none⟩) (l.length - 1) (2 * c + 1), _)) ?_).trans (congrArg some (tidy_mem rfl))
      simp (disch := first | with_reducible rfl | assumption | omega | rfl | (simp only [go_sem]; first | done | omega)) only [go_sem, ↓reduceIte, reduceCtorEq, Nat.reduceEqDiff, Nat.reduceAdd, Nat.reduceSub, Nat.reduceMul, Nat.reduceDiv, Nat.reduceMod, Nat.reduceLeDiff, Nat.reduceLT, Nat.reduceBEq, Int.reduceEq, Int.reduceBEq, Int.reduceBNe, Int.reduceLT, Int.reduceLE, Int.reduceAdd, Int.reduceSub, Int.reduceNeg, Int.reduceToNat, Int.reducePow, Nat.reducePow, Int.reduceMul, Int.reduceDiv, ↓s_slices_Delete_Pair, e1, hne, e2, e3, e4]
      rw [e5, e6]
      simp (disch := first | with_reducible rfl | assumption | omega | rfl | (simp only [go_sem]; first | done | omega)) only [go_sem, ↓reduceIte, reduceCtorEq, Nat.reduceEqDiff, Nat.reduceAdd, Nat.reduceSub, Nat.reduceMul, Nat.reduceDiv, Nat.reduceMod, Nat.reduceLeDiff, Nat.reduceLT, Nat.reduceBEq, Int.reduceEq, Int.reduceBEq, Int.reduceBNe, Int.reduceLT, Int.reduceLE, Int.reduceAdd, Int.reduceSub, Int.reduceNeg, Int.reduceToNat, Int.reducePow, Nat.reducePow, Int.reduceMul, Int.reduceDiv, clear_Pair, f1]
    · have hlen2 : (l.take i ++ l.drop (i + 1)).length = l.length - 1 := by simp; omega
      refine .inr (.inr ⟨b, o, c, _, by rw [hlen2], by rw [hlen2]; omega, by simpa using hn1, set_f_eq, by rw [spl_length, hzl, hw, ho], ?_⟩)
      rw [hys]
      have := del_cells (E := EPr) (xs := xs) (z := [.string (mk []), .string (mk [])]) (o := o) (i := i) rfl hi (by rw [hw]; omega) (by rw [hw]; exact hx)
      exact this



end Go.Proofs.Ytmbppjilnnjdaaa

/-
  The plain map: where a key is, the check of a key and values.
  Conditions: none. By an AI agent.
-/
set_option maxRecDepth 10000
set_option linter.unusedSimpArgs false
set_option linter.unusedVariables false
namespace Go.Proofs.Ytmbppjilnnjdaaa
open Go Eng

theorem q_place_1 (a : Pr) (key : ByteArray) (H : AHeap) : CC F.model_Model_place_1 [.agg #[.string a.key, .string a.value], .string key] H = some (.int .i64 (cmpS a.key key), H) := by
  apply pure_of _ (d_model_Model_place_1 _ _ H) rfl
  rotate_left 2
  · simp (disch := first | with_reducible rfl | assumption | omega | rfl | (simp only [go_sem]; first | done | omega)) only [go_sem, ↓reduceIte, reduceCtorEq, Nat.reduceEqDiff, Nat.reduceAdd, Nat.reduceSub, Nat.reduceMul, Nat.reduceDiv, Nat.reduceMod, Nat.reduceLeDiff, Nat.reduceLT, Nat.reduceBEq, Int.reduceEq, Int.reduceBEq, Int.reduceBNe, Int.reduceLT, Int.reduceLE, Int.reduceAdd, Int.reduceSub, Int.reduceNeg, Int.reduceToNat, Int.reducePow, Nat.reducePow, Int.reduceMul, Int.reduceDiv, ↓s_model_Model_place_1, e_KCompare]
    rfl
  · (repeat (first | exact Fr.refl _ | refine Fr.push ?_ _ | refine Fr.set ?_ _ _ (by intro h; first | omega | (simp only [go_sem] at h; omega))))
@[go_sem, go_sem ↓] theorem e_place_1 (a : Pr) (key : ByteArray) (H : AHeap) {k : Value → AHeap → Res} : enterK CC F.model_Model_place_1 [.agg #[.string a.key, .string a.value], .string key] H k = k (.int .i64 (cmpS a.key key)) H := enterK_eq (q_place_1 a key H)

/-- p is where a key is, or would be. -/
def PosP (l : List Pr) (key : ByteArray) (p : Nat) : Prop :=
  p ≤ l.length ∧ (∀ (i : Nat) (h : i < l.length), i < p → cmpS l[i].key key < 0) ∧ (∀ (i : Nat) (h : i < l.length), p ≤ i → ¬ cmpS l[i].key key < 0)

/-- Is the key there? -/
def isP (l : List Pr) (key : ByteArray) (p : Nat) : Bool := match l[p]? with | some a => decide (cmpS a.key key = 0) | none => false

theorem l_bsP (l : List Pr) (v : Value) (key : ByteArray) (H : AHeap) (hr : Rd EPr H v l) (hl : l.length < 1152921504606846976)
    (p : Nat) (hp1 : ∀ (i : Nat) (h : i < l.length), i < p → cmpS l[i].key key < 0) (hp2 : ∀ (i : Nat) (h : i < l.length), p ≤ i → ¬ cmpS l[i].key key < 0) (K : K) : ∀ (d i j : Nat), j - i = d → i ≤ p → p ≤ j → j ≤ l.length →
    l_slices_BinarySearchFunc_string_0 v (.string key) (.func (.func F.model_Model_place_1) #[] #[]) (.int .i64 l.length) (.int .i64 i) (.int .i64 j) H K
      = K (.exit 0) [(17, .bool false), (16, .int .i64 p), (15, .int .i64 p), (0, v), (1, .string key), (2, .func (.func F.model_Model_place_1) #[] #[]), (8, .int .i64 l.length), (9, .int .i64 p), (10, .int .i64 p)] H := by
  intro d
  induction d using Nat.strongRecOn with
  | ind d ih =>
    intro i j hd hi hj hn
    by_cases hlt : i < j
    · have hlt' : (i : Int) < (j : Int) := by omega
      have hm : ((i : Int) + (j : Int)) / 2 = (((i + j) / 2 : Nat) : Int) := by omega
      generalize hh : (i + j) / 2 = m at hm
      have hm1 : i ≤ m := by omega
      have hm2 : m < j := by omega
      have hml : m < l.length := by omega
      obtain ⟨b, o, hix, hb, hc, _⟩ := hr.ix (q := .i64) hml
      have hix : ixS 2 v (.int .i64 m) = some (.pointer (some ⟨b, o, none⟩)) := hix
      have hc : cutB (H.f b) o 2 = some [.string l[m].key, .string l[m].value] := hc
      rw [r_slices_BinarySearchFunc_string_0]
      by_cases hp : m < p
      · have hcmp : decide (cmpS l[m].key key < 0) = true := decide_eq_true (hp1 m hml hp)
        have ih := ih (j - (m + 1)) (by omega) (m + 1) j rfl (by omega) hj hn
        rw [Int.natCast_add] at ih
        simp (disch := first | with_reducible rfl | assumption | omega | rfl | (simp only [go_sem]; first | done | omega)) only [go_sem, ↓reduceIte, reduceCtorEq, Nat.reduceEqDiff, Nat.reduceAdd, Nat.reduceSub, Nat.reduceMul, Nat.reduceDiv, Nat.reduceMod, Nat.reduceLeDiff, Nat.reduceLT, Nat.reduceBEq, Int.reduceEq, Int.reduceBEq, Int.reduceBNe, Int.reduceLT, Int.reduceLE, Int.reduceAdd, Int.reduceSub, Int.reduceNeg, Int.reduceToNat, Int.reducePow, Nat.reducePow, Int.reduceMul, Int.reduceDiv, ↓s_slices_BinarySearchFunc_string_b0, hlt', hm, hix, hc, c_model_Model_place_1, e_place_1, hcmp]
        exact ih
      · have hcmp : decide (cmpS l[m].key key < 0) = false := decide_eq_false (hp2 m hml (by omega))
        have ih := ih (m - i) (by omega) i m rfl hi (by omega) (by omega)
        simp (disch := first | with_reducible rfl | assumption | omega | rfl | (simp only [go_sem]; first | done | omega)) only [go_sem, ↓reduceIte, reduceCtorEq, Nat.reduceEqDiff, Nat.reduceAdd, Nat.reduceSub, Nat.reduceMul, Nat.reduceDiv, Nat.reduceMod, Nat.reduceLeDiff, Nat.reduceLT, Nat.reduceBEq, Int.reduceEq, Int.reduceBEq, Int.reduceBNe, Int.reduceLT, Int.reduceLE, Int.reduceAdd, Int.reduceSub, Int.reduceNeg, Int.reduceToNat, Int.reducePow, Nat.reducePow, Int.reduceMul, Int.reduceDiv, ↓s_slices_BinarySearchFunc_string_b0, hlt', hm, hix, hc, c_model_Model_place_1, e_place_1, hcmp]
        exact ih
    · have hip : i = p := by omega
      have hjp : j = p := by omega
      subst hip
      subst hjp
      have hlt' : ¬ (j : Int) < (j : Int) := by omega
      rw [r_slices_BinarySearchFunc_string_0]
      simp (disch := first | with_reducible rfl | assumption | omega | rfl | (simp only [go_sem]; first | done | omega)) only [go_sem, ↓reduceIte, reduceCtorEq, Nat.reduceEqDiff, Nat.reduceAdd, Nat.reduceSub, Nat.reduceMul, Nat.reduceDiv, Nat.reduceMod, Nat.reduceLeDiff, Nat.reduceLT, Nat.reduceBEq, Int.reduceEq, Int.reduceBEq, Int.reduceBNe, Int.reduceLT, Int.reduceLE, Int.reduceAdd, Int.reduceSub, Int.reduceNeg, Int.reduceToNat, Int.reducePow, Nat.reducePow, Int.reduceMul, Int.reduceDiv, ↓s_slices_BinarySearchFunc_string_b0, hlt']

theorem q_bsP (l : List Pr) (v : Value) (key : ByteArray) (H : AHeap) (hr : Rd EPr H v l) (hl : l.length < 1152921504606846976) (p : Nat) (hp : PosP l key p) :
    CC F.slices_BinarySearchFunc_string [v, .string key, .func (.func F.model_Model_place_1) #[] #[]] H = some (.tuple #[.int .i64 p, .bool (isP l key p)], H) := by
  obtain ⟨hpl, hp1, hp2⟩ := hp
  have hlen := hr.lenS
  have hloop := l_bsP l v key H hr hl p hp1 hp2
  have hz : Value.int IntKind.i64 0 = Value.int IntKind.i64 ((0 : Nat) : Int) := rfl
  by_cases hlt : p < l.length
  · obtain ⟨b, o, hix, hb, hc, _⟩ := hr.ix (q := .i64) hlt
    have hix : ixS 2 v (.int .i64 p) = some (.pointer (some ⟨b, o, none⟩)) := hix
    have hc : cutB (H.f b) o 2 = some [.string l[p].key, .string l[p].value] := hc
    have hlt' : (p : Int) < (l.length : Int) := by omega
    have his : isP l key p = decide (cmpS l[p].key key = 0) := by unfold isP; rw [List.getElem?_eq_getElem hlt]
    rw [his]
    apply pure_of _ (d_slices_BinarySearchFunc_string _ _ _ H) rfl
    rotate_left 2
    · simp (disch := first | with_reducible rfl | assumption | omega | rfl | (simp only [go_sem]; first | done | omega)) only [go_sem, ↓reduceIte, reduceCtorEq, Nat.reduceEqDiff, Nat.reduceAdd, Nat.reduceSub, Nat.reduceMul, Nat.reduceDiv, Nat.reduceMod, Nat.reduceLeDiff, Nat.reduceLT, Nat.reduceBEq, Int.reduceEq, Int.reduceBEq, Int.reduceBNe, Int.reduceLT, Int.reduceLE, Int.reduceAdd, Int.reduceSub, Int.reduceNeg, Int.reduceToNat, Int.reducePow, Nat.reducePow, Int.reduceMul, Int.reduceDiv, ↓s_slices_BinarySearchFunc_string, hlen]
      rw [hz, hloop _ (l.length - 0) 0 l.length rfl (by omega) hpl (by omega)]
      simp (disch := first | with_reducible rfl | assumption | omega | rfl | (simp only [go_sem]; first | done | omega)) only [go_sem, ↓reduceIte, reduceCtorEq, Nat.reduceEqDiff, Nat.reduceAdd, Nat.reduceSub, Nat.reduceMul, Nat.reduceDiv, Nat.reduceMod, Nat.reduceLeDiff, Nat.reduceLT, Nat.reduceBEq, Int.reduceEq, Int.reduceBEq, Int.reduceBNe, Int.reduceLT, Int.reduceLE, Int.reduceAdd, Int.reduceSub, Int.reduceNeg, Int.reduceToNat, Int.reducePow, Nat.reducePow, Int.reduceMul, Int.reduceDiv, hlt', hix, hc, c_model_Model_place_1, e_place_1]
      rfl
    · (repeat (first | exact Fr.refl _ | refine Fr.push ?_ _ | refine Fr.set ?_ _ _ (by intro h; first | omega | (simp only [go_sem] at h; omega))))
  · have hlt' : ¬ (p : Int) < (l.length : Int) := by omega
    have his : isP l key p = false := by unfold isP; rw [List.getElem?_eq_none (by omega)]
    rw [his]
    apply pure_of _ (d_slices_BinarySearchFunc_string _ _ _ H) rfl
    rotate_left 2
    · simp (disch := first | with_reducible rfl | assumption | omega | rfl | (simp only [go_sem]; first | done | omega)) only [go_sem, ↓reduceIte, reduceCtorEq, Nat.reduceEqDiff, Nat.reduceAdd, Nat.reduceSub, Nat.reduceMul, Nat.reduceDiv, Nat.reduceMod, Nat.reduceLeDiff, Nat.reduceLT, Nat.reduceBEq, Int.reduceEq, Int.reduceBEq, Int.reduceBNe, Int.reduceLT, Int.reduceLE, Int.reduceAdd, Int.reduceSub, Int.reduceNeg, Int.reduceToNat, Int.reducePow, Nat.reducePow, Int.reduceMul, Int.reduceDiv, ↓s_slices_BinarySearchFunc_string, hlen]
      rw [hz, hloop _ (l.length - 0) 0 l.length rfl (by omega) hpl (by omega)]
      simp (disch := first | with_reducible rfl | assumption | omega | rfl | (simp only [go_sem]; first | done | omega)) only [go_sem, ↓reduceIte, reduceCtorEq, Nat.reduceEqDiff, Nat.reduceAdd, Nat.reduceSub, Nat.reduceMul, Nat.reduceDiv, Nat.reduceMod, Nat.reduceLeDiff, Nat.reduceLT, Nat.reduceBEq, Int.reduceEq, Int.reduceBEq, Int.reduceBNe, Int.reduceLT, Int.reduceLE, Int.reduceAdd, Int.reduceSub, Int.reduceNeg, Int.reduceToNat, Int.reducePow, Nat.reducePow, Int.reduceMul, Int.reduceDiv, hlt']
      rfl
    · (repeat (first | exact Fr.refl _ | refine Fr.push ?_ _ | refine Fr.set ?_ _ _ (by intro h; first | omega | (simp only [go_sem] at h; omega))))

/-! ### The check -/
theorem q_check_1 (a : ByteArray) (H : AHeap) : CC F.model_check_1 [.string a] H = some (.bool (decide (40 < (bl a).length)), H) := by
  have e : decide ((40 : Int) < ((bl a).length : Int)) = decide (40 < (bl a).length) := decide_eq_decide.2 (by omega)
  apply pure_of _ (d_model_check_1 _ H) rfl
  rotate_left 2
  · simp (disch := first | with_reducible rfl | assumption | omega | rfl | (simp only [go_sem]; first | done | omega)) only [go_sem, ↓reduceIte, reduceCtorEq, Nat.reduceEqDiff, Nat.reduceAdd, Nat.reduceSub, Nat.reduceMul, Nat.reduceDiv, Nat.reduceMod, Nat.reduceLeDiff, Nat.reduceLT, Nat.reduceBEq, Int.reduceEq, Int.reduceBEq, Int.reduceBNe, Int.reduceLT, Int.reduceLE, Int.reduceAdd, Int.reduceSub, Int.reduceNeg, Int.reduceToNat, Int.reducePow, Nat.reducePow, Int.reduceMul, Int.reduceDiv, ↓s_model_check_1, e]
    rfl
  · (repeat (first | exact Fr.refl _ | refine Fr.push ?_ _ | refine Fr.set ?_ _ _ (by intro h; first | omega | (simp only [go_sem] at h; omega))))
@[go_sem, go_sem ↓] theorem e_check_1 (a : ByteArray) (H : AHeap) {k : Value → AHeap → Res} : enterK CC F.model_check_1 [.string a] H k = k (.bool (decide (40 < (bl a).length))) H := enterK_eq (q_check_1 a H)

def idxLong : List ByteArray → Nat → Int
  | [], _ => -1
  | a :: l, i => if 40 < (bl a).length then i else idxLong l (i + 1)

theorem l_indexS (l : List ByteArray) (v : Value) (H : AHeap) (hr : Rd EStr H v l) (hl : l.length < 4611686018427387904) (K : K) : ∀ (m : List ByteArray) (i : Nat), l.drop i = m → i ≤ l.length →
    l_slices_IndexFunc_string_0 v (.func (.func F.model_check_1) #[] #[]) (.int .i64 l.length) (.int .i64 i) H (blkK [] 0 (seqK (fun _ h2 => K .ret [(4, .int .i64 (-1))] h2) K)) = K .ret [(4, .int .i64 (idxLong m i))] H
  | [], i, hm, hi => by
    have h : l.length ≤ i := List.drop_eq_nil_iff.1 hm
    have hlt : ¬ (i : Int) < (l.length : Int) := by omega
    rw [r_slices_IndexFunc_string_0]
    simp (disch := first | with_reducible rfl | assumption | omega | rfl | (simp only [go_sem]; first | done | omega)) only [go_sem, ↓reduceIte, reduceCtorEq, Nat.reduceEqDiff, Nat.reduceAdd, Nat.reduceSub, Nat.reduceMul, Nat.reduceDiv, Nat.reduceMod, Nat.reduceLeDiff, Nat.reduceLT, Nat.reduceBEq, Int.reduceEq, Int.reduceBEq, Int.reduceBNe, Int.reduceLT, Int.reduceLE, Int.reduceAdd, Int.reduceSub, Int.reduceNeg, Int.reduceToNat, Int.reducePow, Nat.reducePow, Int.reduceMul, Int.reduceDiv, ↓s_slices_IndexFunc_string_b0, hlt, idxLong]
  | a :: m, i, hm, hi => by
    have h : i < l.length := by
      rcases Nat.lt_or_ge i l.length with h | h
      · exact h
      · rw [List.drop_eq_nil_of_le h] at hm; cases hm
    have hlt : (i : Int) < (l.length : Int) := by omega
    have ha : l[i] = a := by rw [List.drop_eq_getElem_cons h] at hm; exact (List.cons.inj hm).1
    have hm' : l.drop (i + 1) = m := by rw [List.drop_eq_getElem_cons h] at hm; exact (List.cons.inj hm).2
    have ih := l_indexS l v H hr hl K m (i + 1) hm' h
    obtain ⟨b, o, hix, hb, hc, _⟩ := hr.ix (q := .i64) h
    rw [ha] at hc
    have hix : ixS 1 v (.int .i64 i) = some (.pointer (some ⟨b, o, none⟩)) := hix
    have hc : cellB (H.f b) o = some (.string a) := cutB_cell hc (i := 0) (by decide)
    rw [Int.natCast_add] at ih
    rw [r_slices_IndexFunc_string_0]
    by_cases he : 40 < (bl a).length
    · have hd : decide (40 < (bl a).length) = true := decide_eq_true he
      rw [idxLong, if_pos he]
      simp (disch := first | with_reducible rfl | assumption | omega | rfl | (simp only [go_sem]; first | done | omega)) only [go_sem, ↓reduceIte, reduceCtorEq, Nat.reduceEqDiff, Nat.reduceAdd, Nat.reduceSub, Nat.reduceMul, Nat.reduceDiv, Nat.reduceMod, Nat.reduceLeDiff, Nat.reduceLT, Nat.reduceBEq, Int.reduceEq, Int.reduceBEq, Int.reduceBNe, Int.reduceLT, Int.reduceLE, Int.reduceAdd, Int.reduceSub, Int.reduceNeg, Int.reduceToNat, Int.reducePow, Nat.reducePow, Int.reduceMul, Int.reduceDiv, ↓s_slices_IndexFunc_string_b0, hlt, hix, hc, c_model_check_1, e_check_1, hd]
    · have hd : decide (40 < (bl a).length) = false := decide_eq_false he
      rw [idxLong, if_neg he]
      simp (disch := first | with_reducible rfl | assumption | omega | rfl | (simp only [go_sem]; first | done | omega)) only [go_sem, ↓reduceIte, reduceCtorEq, Nat.reduceEqDiff, Nat.reduceAdd, Nat.reduceSub, Nat.reduceMul, Nat.reduceDiv, Nat.reduceMod, Nat.reduceLeDiff, Nat.reduceLT, Nat.reduceBEq, Int.reduceEq, Int.reduceBEq, Int.reduceBNe, Int.reduceLT, Int.reduceLE, Int.reduceAdd, Int.reduceSub, Int.reduceNeg, Int.reduceToNat, Int.reducePow, Nat.reducePow, Int.reduceMul, Int.reduceDiv, ↓s_slices_IndexFunc_string_b0, hlt, hix, hc, c_model_check_1, e_check_1, hd]
      exact ih

theorem idxLong_iff : ∀ (l : List ByteArray) (i : Nat), (0 ≤ idxLong l i) = (∃ a, a ∈ l ∧ 40 < (bl a).length)
  | [], i => by simp [idxLong]
  | a :: l, i => by
    rw [idxLong]
    by_cases h : 40 < (bl a).length
    · rw [if_pos h]; simp [h]
    · rw [if_neg h, idxLong_iff l (i + 1)]; simp [h]

/-- The error of a key and values. -/
def chk (key : ByteArray) (vs : List ByteArray) : Int :=
  if bl key = [] then 2 else if 24 < (bl key).length ∨ (vs.any fun a => decide (40 < (bl a).length)) = true then 5 else 0

theorem q_contains (l : List ByteArray) (v : Value) (H : AHeap) (hr : Rd EStr H v l) (hl : l.length < 4611686018427387904) :
    CC F.slices_ContainsFunc_string [v, .func (.func F.model_check_1) #[] #[]] H = some (.bool (l.any fun a => decide (40 < (bl a).length)), H) := by
  have hlen := hr.lenS
  have hix : CC F.slices_IndexFunc_string [v, .func (.func F.model_check_1) #[] #[]] H = some (.int .i64 (idxLong l 0), H) := by
    apply pure_of _ (d_slices_IndexFunc_string _ _ H) rfl
    rotate_left 2
    · simp (disch := first | with_reducible rfl | assumption | omega | rfl | (simp only [go_sem]; first | done | omega)) only [go_sem, ↓reduceIte, reduceCtorEq, Nat.reduceEqDiff, Nat.reduceAdd, Nat.reduceSub, Nat.reduceMul, Nat.reduceDiv, Nat.reduceMod, Nat.reduceLeDiff, Nat.reduceLT, Nat.reduceBEq, Int.reduceEq, Int.reduceBEq, Int.reduceBNe, Int.reduceLT, Int.reduceLE, Int.reduceAdd, Int.reduceSub, Int.reduceNeg, Int.reduceToNat, Int.reducePow, Nat.reducePow, Int.reduceMul, Int.reduceDiv, ↓s_slices_IndexFunc_string, hlen]
      exact l_indexS l v H hr hl (endK Try.prog [.tmp 4]) l 0 (by simp) (by omega)
    · (repeat (first | exact Fr.refl _ | refine Fr.push ?_ _ | refine Fr.set ?_ _ _ (by intro h; first | omega | (simp only [go_sem] at h; omega))))
  have e : decide (0 ≤ idxLong l 0) = l.any fun a => decide (40 < (bl a).length) := by
    rw [Bool.eq_iff_iff, decide_eq_true_iff, idxLong_iff, List.any_eq_true]
    simp
  apply pure_of _ (d_slices_ContainsFunc_string _ _ H) rfl
  rotate_left 2
  · simp (disch := first | with_reducible rfl | assumption | omega | rfl | (simp only [go_sem]; first | done | omega)) only [go_sem, ↓reduceIte, reduceCtorEq, Nat.reduceEqDiff, Nat.reduceAdd, Nat.reduceSub, Nat.reduceMul, Nat.reduceDiv, Nat.reduceMod, Nat.reduceLeDiff, Nat.reduceLT, Nat.reduceBEq, Int.reduceEq, Int.reduceBEq, Int.reduceBNe, Int.reduceLT, Int.reduceLE, Int.reduceAdd, Int.reduceSub, Int.reduceNeg, Int.reduceToNat, Int.reducePow, Nat.reducePow, Int.reduceMul, Int.reduceDiv, ↓s_slices_ContainsFunc_string, enterK_eq hix, e]
    rfl
  · (repeat (first | exact Fr.refl _ | refine Fr.push ?_ _ | refine Fr.set ?_ _ _ (by intro h; first | omega | (simp only [go_sem] at h; omega))))

theorem q_check (key : ByteArray) (l : List ByteArray) (v : Value) (H : AHeap) (hr : Rd EStr H v l) (hl : l.length < 4611686018427387904) :
    CC F.model_check [.string key, v] H = some (.int .i64 (chk key l), H) := by
  have hcon := q_contains l v H hr hl
  unfold chk
  by_cases h1 : bl key = []
  · have hd : decide (bl key = []) = true := decide_eq_true h1
    rw [if_pos h1]
    apply pure_of _ (d_model_check _ _ H) rfl
    rotate_left 2
    · simp (disch := first | with_reducible rfl | assumption | omega | rfl | (simp only [go_sem]; first | done | omega)) only [go_sem, ↓reduceIte, reduceCtorEq, Nat.reduceEqDiff, Nat.reduceAdd, Nat.reduceSub, Nat.reduceMul, Nat.reduceDiv, Nat.reduceMod, Nat.reduceLeDiff, Nat.reduceLT, Nat.reduceBEq, Int.reduceEq, Int.reduceBEq, Int.reduceBNe, Int.reduceLT, Int.reduceLE, Int.reduceAdd, Int.reduceSub, Int.reduceNeg, Int.reduceToNat, Int.reducePow, Nat.reducePow, Int.reduceMul, Int.reduceDiv, ↓s_model_check, hd]
      rfl
    · (repeat (first | exact Fr.refl _ | refine Fr.push ?_ _ | refine Fr.set ?_ _ _ (by intro h; first | omega | (simp only [go_sem] at h; omega))))
  · have hd : decide (bl key = []) = false := decide_eq_false h1
    rw [if_neg h1]
    by_cases h2 : 24 < (bl key).length
    · have hd2 : decide ((24 : Int) < ((bl key).length : Int)) = true := decide_eq_true (by omega)
      rw [if_pos (.inl h2)]
      apply pure_of _ (d_model_check _ _ H) rfl
      rotate_left 2
      · simp (disch := first | with_reducible rfl | assumption | omega | rfl | (simp only [go_sem]; first | done | omega)) only [go_sem, ↓reduceIte, reduceCtorEq, Nat.reduceEqDiff, Nat.reduceAdd, Nat.reduceSub, Nat.reduceMul, Nat.reduceDiv, Nat.reduceMod, Nat.reduceLeDiff, Nat.reduceLT, Nat.reduceBEq, Int.reduceEq, Int.reduceBEq, Int.reduceBNe, Int.reduceLT, Int.reduceLE, Int.reduceAdd, Int.reduceSub, Int.reduceNeg, Int.reduceToNat, Int.reducePow, Nat.reducePow, Int.reduceMul, Int.reduceDiv, ↓s_model_check, hd, hd2]
        rfl
      · (repeat (first | exact Fr.refl _ | refine Fr.push ?_ _ | refine Fr.set ?_ _ _ (by intro h; first | omega | (simp only [go_sem] at h; omega))))
    · have hd2 : decide ((24 : Int) < ((bl key).length : Int)) = false := decide_eq_false (by omega)
      cases hany : l.any fun a => decide (40 < (bl a).length) with
      | true =>
        rw [hany] at hcon
        rw [if_pos (.inr rfl)]
        apply pure_of _ (d_model_check _ _ H) rfl
        rotate_left 2
        · simp (disch := first | with_reducible rfl | assumption | omega | rfl | (simp only [go_sem]; first | done | omega)) only [go_sem, ↓reduceIte, reduceCtorEq, Nat.reduceEqDiff, Nat.reduceAdd, Nat.reduceSub, Nat.reduceMul, Nat.reduceDiv, Nat.reduceMod, Nat.reduceLeDiff, Nat.reduceLT, Nat.reduceBEq, Int.reduceEq, Int.reduceBEq, Int.reduceBNe, Int.reduceLT, Int.reduceLE, Int.reduceAdd, Int.reduceSub, Int.reduceNeg, Int.reduceToNat, Int.reducePow, Nat.reducePow, Int.reduceMul, Int.reduceDiv, ↓s_model_check, hd, hd2, enterK_eq hcon]
          rfl
        · (repeat (first | exact Fr.refl _ | refine Fr.push ?_ _ | refine Fr.set ?_ _ _ (by intro h; first | omega | (simp only [go_sem] at h; omega))))
      | false =>
        rw [hany] at hcon
        rw [if_neg (by simp; omega)]
        apply pure_of _ (d_model_check _ _ H) rfl
        rotate_left 2
        · simp (disch := first | with_reducible rfl | assumption | omega | rfl | (simp only [go_sem]; first | done | omega)) only [go_sem, ↓reduceIte, reduceCtorEq, Nat.reduceEqDiff, Nat.reduceAdd, Nat.reduceSub, Nat.reduceMul, Nat.reduceDiv, Nat.reduceMod, Nat.reduceLeDiff, Nat.reduceLT, Nat.reduceBEq, Int.reduceEq, Int.reduceBEq, Int.reduceBNe, Int.reduceLT, Int.reduceLE, Int.reduceAdd, Int.reduceSub, Int.reduceNeg, Int.reduceToNat, Int.reducePow, Nat.reducePow, Int.reduceMul, Int.reduceDiv, ↓s_model_check, hd, hd2, enterK_eq hcon]
          rfl
        · (repeat (first | exact Fr.refl _ | refine Fr.push ?_ _ | refine Fr.set ?_ _ _ (by intro h; first | omega | (simp only [go_sem] at h; omega))))

/-! ### The map -/
def MdlT (t : TypeId) (H : AHeap) (b : Nat) (l : List Pr) : Prop := ∃ v, H.f b = .cells [v] t true ∧ b < H.n ∧ Own EPr H T.api_Pair v l ∧ blockOf v ≠ some b
abbrev Mdl := MdlT T.model_Model

theorem MdlT.keep {t : TypeId} {H H' : AHeap} {S : Nat → Prop} {b : Nat} {l : List Pr} (r : MdlT t H b l) (h : Fr S H H') (hb : ¬ S b) (hv : ∀ v, H.f b = .cells [v] t true → Off S v) : MdlT t H' b l := by
  obtain ⟨v, h1, h2, h3, h4⟩ := r
  exact ⟨v, by rw [h.f h2 hb]; exact h1, Nat.lt_of_lt_of_le h2 h.n, h3.keep h (hv v h1), h4⟩
theorem MdlT.still {t : TypeId} {H H' : AHeap} {b : Nat} {l : List Pr} (r : MdlT t H b l) (h : Still H H') : MdlT t H' b l := r.keep h (fun h => h) fun _ _ _ _ h => h

def Ok (H : AHeap) : Prop := ∀ b, H.ver b < H.clk
theorem Ok.fr {S : Nat → Prop} {H H' : AHeap} (h : Ok H) (f : Fr S H H') : Ok H' := f.ok h
theorem H0_ok : Ok H0 := fun _ => Nat.zero_lt_one

/-- The blocks of a map. -/
def MBT (t : TypeId) (H : AHeap) (b : Nat) : Nat → Prop := fun c => c = b ∨ ∃ v, H.f b = .cells [v] t true ∧ blockOf v = some c
abbrev MB := MBT T.model_Model

theorem q_place (b : Nat) (l : List Pr) (key : ByteArray) (H : AHeap) (r : Mdl H b l) (hl : l.length < 1152921504606846976) (p : Nat) (hp : PosP l key p) :
    CC F.model_Model_place [.pointer (some ⟨b, 0, none⟩), .string key] H = some (.tuple #[.int .i64 p, .bool (isP l key p)], H) := by
  obtain ⟨v, h1, h2, h3, h4⟩ := r
  have hbs := q_bsP l v key H h3.rd hl p hp
  apply pure_of _ (d_model_Model_place _ _ H) rfl
  rotate_left 2
  · simp (disch := first | with_reducible rfl | assumption | omega | rfl | (simp only [go_sem]; first | done | omega)) only [go_sem, ↓reduceIte, reduceCtorEq, Nat.reduceEqDiff, Nat.reduceAdd, Nat.reduceSub, Nat.reduceMul, Nat.reduceDiv, Nat.reduceMod, Nat.reduceLeDiff, Nat.reduceLT, Nat.reduceBEq, Int.reduceEq, Int.reduceBEq, Int.reduceBNe, Int.reduceLT, Int.reduceLE, Int.reduceAdd, Int.reduceSub, Int.reduceNeg, Int.reduceToNat, Int.reducePow, Nat.reducePow, Int.reduceMul, Int.reduceDiv, ↓s_model_Model_place, h1, enterK_eq hbs]
    rfl
  · (repeat (first | exact Fr.refl _ | refine Fr.push ?_ _ | refine Fr.set ?_ _ _ (by intro h; first | omega | (simp only [go_sem] at h; omega))))

theorem q_at_bad (b : Nat) (key : ByteArray) (vs : List ByteArray) (v : Value) (H : AHeap) (hv : Rd EStr H v vs) (hvl : vs.length < 4611686018427387904) (hc : chk key vs ≠ 0) :
    CC F.model_Model_at [.pointer (some ⟨b, 0, none⟩), .string key, v] H = some (.tuple #[.int .i64 0, .bool false, .int .i64 (chk key vs)], H) := by
  have hck := q_check key vs v H hv hvl
  generalize chk key vs = e at hck hc
  apply pure_of _ (d_model_Model_at _ _ _ H) rfl
  rotate_left 2
  · simp (disch := first | with_reducible rfl | assumption | omega | rfl | (simp only [go_sem]; first | done | omega)) only [go_sem, ↓reduceIte, reduceCtorEq, Nat.reduceEqDiff, Nat.reduceAdd, Nat.reduceSub, Nat.reduceMul, Nat.reduceDiv, Nat.reduceMod, Nat.reduceLeDiff, Nat.reduceLT, Nat.reduceBEq, Int.reduceEq, Int.reduceBEq, Int.reduceBNe, Int.reduceLT, Int.reduceLE, Int.reduceAdd, Int.reduceSub, Int.reduceNeg, Int.reduceToNat, Int.reducePow, Nat.reducePow, Int.reduceMul, Int.reduceDiv, ↓s_model_Model_at, mp_some, enterK_eq hck, hc]
    rfl
  · (repeat (first | exact Fr.refl _ | refine Fr.push ?_ _ | refine Fr.set ?_ _ _ (by intro h; first | omega | (simp only [go_sem] at h; omega))))

theorem q_at (b : Nat) (l : List Pr) (key : ByteArray) (vs : List ByteArray) (v : Value) (H : AHeap) (r : Mdl H b l) (hl : l.length < 1152921504606846976) (p : Nat) (hp : PosP l key p) (hv : Rd EStr H v vs) (hvl : vs.length < 4611686018427387904) (hc : chk key vs = 0) :
    CC F.model_Model_at [.pointer (some ⟨b, 0, none⟩), .string key, v] H = some (.tuple #[.int .i64 p, .bool (isP l key p), .int .i64 0], H) := by
  have hck := q_check key vs v H hv hvl
  rw [hc] at hck
  have hpl := q_place b l key H r hl p hp
  apply pure_of _ (d_model_Model_at _ _ _ H) rfl
  rotate_left 2
  · simp (disch := first | with_reducible rfl | assumption | omega | rfl | (simp only [go_sem]; first | done | omega)) only [go_sem, ↓reduceIte, reduceCtorEq, Nat.reduceEqDiff, Nat.reduceAdd, Nat.reduceSub, Nat.reduceMul, Nat.reduceDiv, Nat.reduceMod, Nat.reduceLeDiff, Nat.reduceLT, Nat.reduceBEq, Int.reduceEq, Int.reduceBEq, Int.reduceBNe, Int.reduceLT, Int.reduceLE, Int.reduceAdd, Int.reduceSub, Int.reduceNeg, Int.reduceToNat, Int.reducePow, Nat.reducePow, Int.reduceMul, Int.reduceDiv, ↓s_model_Model_at, mp_some, enterK_eq hck, c_model_Model_place, enterK_eq hpl]
    rfl
  · (repeat (first | exact Fr.refl _ | refine Fr.push ?_ _ | refine Fr.set ?_ _ _ (by intro h; first | omega | (simp only [go_sem] at h; omega))))

theorem q_Get_bad (b : Nat) (key : ByteArray) (H : AHeap) (hc : chk key [] ≠ 0) : CC F.model_Model_Get [.pointer (some ⟨b, 0, none⟩), .string key] H = some (.tuple #[.string (mk []), .int .i64 (chk key [])], H) := by
  have hat := q_at_bad b key [] (.slice none 0 0) H (.inl ⟨rfl, rfl⟩) (by simp) hc
  generalize chk key [] = e at hat hc
  apply pure_of _ (d_model_Model_Get _ _ H) rfl
  rotate_left 2
  · simp (disch := first | with_reducible rfl | assumption | omega | rfl | (simp only [go_sem]; first | done | omega)) only [go_sem, ↓reduceIte, reduceCtorEq, Nat.reduceEqDiff, Nat.reduceAdd, Nat.reduceSub, Nat.reduceMul, Nat.reduceDiv, Nat.reduceMod, Nat.reduceLeDiff, Nat.reduceLT, Nat.reduceBEq, Int.reduceEq, Int.reduceBEq, Int.reduceBNe, Int.reduceLT, Int.reduceLE, Int.reduceAdd, Int.reduceSub, Int.reduceNeg, Int.reduceToNat, Int.reducePow, Nat.reducePow, Int.reduceMul, Int.reduceDiv, ↓s_model_Model_Get, enterK_eq hat, hc]
    rfl
  · (repeat (first | exact Fr.refl _ | refine Fr.push ?_ _ | refine Fr.set ?_ _ _ (by intro h; first | omega | (simp only [go_sem] at h; omega))))

/-- What is gotten: the value and the error. -/
def getP (l : List Pr) (key : ByteArray) (p : Nat) : Value := if isP l key p = true then .tuple #[.string ((l[p]?).elim (mk []) Pr.value), .int .i64 0] else .tuple #[.string (mk []), .int .i64 9]

theorem q_Get (b : Nat) (l : List Pr) (key : ByteArray) (H : AHeap) (r : Mdl H b l) (hl : l.length < 1152921504606846976) (p : Nat) (hp : PosP l key p) (hc : chk key [] = 0) :
    CC F.model_Model_Get [.pointer (some ⟨b, 0, none⟩), .string key] H = some (getP l key p, H) := by
  have hat := q_at b l key [] (.slice none 0 0) H r hl p hp (.inl ⟨rfl, rfl⟩) (by simp) hc
  obtain ⟨v, h1, h2, h3, h4⟩ := r
  unfold getP
  cases his : isP l key p with
  | false =>
    rw [his] at hat
    simp only [Bool.false_eq_true, if_false]
    apply pure_of _ (d_model_Model_Get _ _ H) rfl
    rotate_left 2
    · simp (disch := first | with_reducible rfl | assumption | omega | rfl | (simp only [go_sem]; first | done | omega)) only [go_sem, ↓reduceIte, reduceCtorEq, Nat.reduceEqDiff, Nat.reduceAdd, Nat.reduceSub, Nat.reduceMul, Nat.reduceDiv, Nat.reduceMod, Nat.reduceLeDiff, Nat.reduceLT, Nat.reduceBEq, Int.reduceEq, Int.reduceBEq, Int.reduceBNe, Int.reduceLT, Int.reduceLE, Int.reduceAdd, Int.reduceSub, Int.reduceNeg, Int.reduceToNat, Int.reducePow, Nat.reducePow, Int.reduceMul, Int.reduceDiv, ↓s_model_Model_Get, enterK_eq hat]
      rfl
    · (repeat (first | exact Fr.refl _ | refine Fr.push ?_ _ | refine Fr.set ?_ _ _ (by intro h; first | omega | (simp only [go_sem] at h; omega))))
  | true =>
    rw [his] at hat
    have hlt : p < l.length := by
      rcases Nat.lt_or_ge p l.length with h | h
      · exact h
      · unfold isP at his; rw [List.getElem?_eq_none h] at his; cases his
    obtain ⟨bb, o, hix, hb, hcc, _⟩ := h3.rd.ix (q := .i64) hlt
    have hix : ixS 2 v (.int .i64 p) = some (.pointer (some ⟨bb, o, none⟩)) := hix
    have hcc : cellB (H.f bb) (o + 1) = some (.string l[p].value) := cutB_cell hcc (i := 1) (by decide)
    simp only [if_true, List.getElem?_eq_getElem hlt, Option.elim]
    apply pure_of _ (d_model_Model_Get _ _ H) rfl
    rotate_left 2
    · simp (disch := first | with_reducible rfl | assumption | omega | rfl | (simp only [go_sem]; first | done | omega)) only [go_sem, ↓reduceIte, reduceCtorEq, Nat.reduceEqDiff, Nat.reduceAdd, Nat.reduceSub, Nat.reduceMul, Nat.reduceDiv, Nat.reduceMod, Nat.reduceLeDiff, Nat.reduceLT, Nat.reduceBEq, Int.reduceEq, Int.reduceBEq, Int.reduceBNe, Int.reduceLT, Int.reduceLE, Int.reduceAdd, Int.reduceSub, Int.reduceNeg, Int.reduceToNat, Int.reducePow, Nat.reducePow, Int.reduceMul, Int.reduceDiv, ↓s_model_Model_Get, enterK_eq hat, h1, hix, hcc]
      rfl
    · (repeat (first | exact Fr.refl _ | refine Fr.push ?_ _ | refine Fr.set ?_ _ _ (by intro h; first | omega | (simp only [go_sem] at h; omega))))

end Go.Proofs.Ytmbppjilnnjdaaa

/-
  The plain map: set, Put, Insert, Delete, Swap.
  Conditions: none. By an AI agent.
-/
set_option maxRecDepth 10000
set_option linter.unusedSimpArgs false
set_option linter.unusedVariables false
namespace Go.Proofs.Ytmbppjilnnjdaaa
open Go Eng

theorem srcOne {a : Pr} {b : Nat} {H : AHeap} (h : H.f b = .cells [.string a.key, .string a.value] T.api_Pair true) : srcS 2 (.slice (some ⟨b, 0, none⟩) 1 2) H = some ([a].length, EPr.cells [a]) := by
  unfold srcS
  simp only [cut_b, h, Nat.one_ne_zero, if_false]
  rfl

/-- Writing an element of a list of its own. -/
theorem Own.write {l : List Pr} {v : Value} {H : AHeap} (r : Own EPr H T.api_Pair v l) {i : Nat} (hi : i < l.length) (a : Pr) :
    ∃ b o H', ixS 2 v (.int .i64 (i : Int)) = some (.pointer (some ⟨b, o, none⟩)) ∧ setB H b (wrL (H.f b) o [.string a.key, .string a.value]) = some H' ∧ Own EPr H' T.api_Pair v (l.set i a) ∧ blockOf v = some b ∧ b < H.n ∧
      H'.n = H.n ∧ Fr (fun c => c = b) H H' ∧ H'.ver b = H.clk := by
  rcases r with ⟨h, _⟩ | ⟨h, _⟩ | ⟨b, o, c, xs, rfl, hlc, hb, hf, ho, hx⟩
  · subst h; simp at hi
  · subst h; simp at hi
  · have hw : EPr.w = 2 := rfl
    rw [hw] at ho hx
    have hmul : l.length * 2 ≤ c * 2 := Nat.mul_le_mul_right _ hlc
    refine ⟨b, o + i * 2, H.set b (.cells (spl xs (o + i * 2) [.string a.key, .string a.value]) T.api_Pair true), ixS_nat hi, ?_, ?_, rfl, hb, rfl, Fr.set (Fr.refl H) _ _ fun _ => rfl, set_v_eq⟩
    · rw [hf, wrL_c (by simp; omega) rfl, setB_s]
    · refine .inr (.inr ⟨b, o, c, _, by simp, by simpa using hlc, by simpa using hb, set_f_eq, by rw [spl_length, hw, ho], ?_⟩)
      rw [List.length_set, hw]
      apply List.ext_getElem?
      intro j
      have hcell : ∀ (l : List Pr) (k m : Nat), m < 2 → (EPr.cells l)[k * 2 + m]? = (l[k]?).bind fun a => (EPr.enc a)[m]? := by
        intro l k m hm
        by_cases hk : k < l.length
        · have := EPr.cells_elem l k hk
          rw [hw] at this
          rw [List.getElem?_eq_getElem hk, Option.bind_some, ← this, List.getElem?_take_of_lt hm, List.getElem?_drop]
        · rw [List.getElem?_eq_none (by rw [EPr.cells_len, hw]; omega), List.getElem?_eq_none (by omega)]
          rfl
      by_cases hj : j < l.length * 2
      · rw [List.getElem?_take_of_lt hj, List.getElem?_drop, spl_get _ _ _ _ (by simp; omega)]
        have hdm : j = (j / 2) * 2 + j % 2 := by omega
        rw [hdm, hcell _ _ _ (by omega)]
        have hold : xs[o + j]? = (l[j / 2]?).bind fun a => (EPr.enc a)[j % 2]? := by
          rw [← hcell _ _ _ (by omega), ← hdm, ← hx, List.getElem?_take_of_lt hj, List.getElem?_drop]
        by_cases h1 : j / 2 = i
        · rw [if_pos (by simp; omega), ← h1, List.getElem?_set_self (by omega), Option.bind_some]
          rw [show o + (j / 2 * 2 + j % 2) - (o + j / 2 * 2) = j % 2 by omega]
          rfl
        · rw [if_neg (by simp; omega), List.getElem?_set_ne (by omega), ← hdm, hold]
      · rw [List.getElem?_eq_none (by simp only [List.length_take]; omega), List.getElem?_eq_none (by rw [EPr.cells_len, List.length_set, hw]; omega)]

/-- What a call may turn that works on a map: the map's blocks; and it has new ones at most. -/
structure UpT (t : TypeId) (H : AHeap) (b : Nat) (H' : AHeap) : Prop where
  fr : Fr (MBT t H b) H H'
  mb : ∀ c, MBT t H' b c → MBT t H b c ∨ H.n ≤ c
abbrev Up := UpT T.model_Model
theorem UpT.refl {t : TypeId} (H : AHeap) (b : Nat) : UpT t H b H := ⟨Fr.refl H, fun _ h => .inl h⟩
theorem Up.refl (H : AHeap) (b : Nat) : Up H b H := UpT.refl H b
/-- From the map's cell before and behind. -/
theorem UpT.of {t : TypeId} {H H' : AHeap} {b : Nat} {v v' : Value} (h1 : H.f b = .cells [v] t true) (f : Fr (MBT t H b) H H') (h2 : H'.f b = .cells [v'] t true) (h : ∀ c, blockOf v' = some c → blockOf v = some c ∨ H.n ≤ c) : UpT t H b H' := by
  refine ⟨f, fun c hc => ?_⟩
  rcases hc with hc | ⟨u, hu, hb⟩
  · exact .inl (.inl hc)
  · rw [h2] at hu
    cases hu
    exact (h c hb).imp (fun h => .inr ⟨v, h1, h⟩) id

/-- set, where the key is there. -/
theorem q_set_is (b : Nat) (l : List Pr) (i : Nat) (a : Pr) (H : AHeap) (ok : Ok H) (r : Mdl H b l) (hi : i < l.length) :
    ∃ H', CC F.model_Model_set [.pointer (some ⟨b, 0, none⟩), .int .i64 (i : Int), .bool true, .agg #[.string a.key, .string a.value]] H = some (.int .i64 0, H') ∧ Mdl H' b (l.set i a) ∧ Up H b H' := by
  obtain ⟨v, h1, h2, h3, h4⟩ := r
  let H1 : AHeap := H.push (.cells [.string a.key, .string a.value] T.api_Pair true)
  have s1 : Still H H1 := (Fr.refl H).push _
  have o1 : Own EPr H1 T.api_Pair v l := h3.still s1
  obtain ⟨bb, o, H2, hix, hw, o2, hbv, hb, hn2, hf2, hv2⟩ := Own.write o1 hi a
  have hbn : bb < H.n := h3.blk hbv
  have fbb : H1.f bb = H.f bb := s1.f hbn (fun h => h)
  have hw : setB (H.push (.cells [.string a.key, .string a.value] T.api_Pair true)) bb (wrL (H.f bb) o [.string a.key, .string a.value]) = some H2 := by rw [← fbb]; exact hw
  have hne : b ≠ bb := fun h => h4 (by rw [h]; exact hbv)
  have hfr : Fr (MB H b) H H2 := Fr.then (S := MB H b) s1.still hf2 fun c _ h => by subst h; exact .inr ⟨v, h1, hbv⟩
  have hfb : H2.f b = .cells [v] T.model_Model true := by rw [hf2.f (Nat.lt_of_lt_of_le h2 s1.n) hne, s1.f h2 (fun h => h), h1]
  refine ⟨H2, (d_model_Model_set _ _ _ _ H (r := (.int .i64 0, H2)) ?_).trans (congrArg some (tidy_turned hbn (ok bb) ?_)), ⟨v, hfb, by rw [hn2]; exact Nat.lt_of_lt_of_le h2 s1.n, o2, h4⟩, UpT.of h1 hfr hfb fun c h => .inl h⟩
  · simp (disch := first | with_reducible rfl | assumption | omega | rfl | (simp only [go_sem]; first | done | omega)) only [go_sem, ↓reduceIte, reduceCtorEq, Nat.reduceEqDiff, Nat.reduceAdd, Nat.reduceSub, Nat.reduceMul, Nat.reduceDiv, Nat.reduceMod, Nat.reduceLeDiff, Nat.reduceLT, Nat.reduceBEq, Int.reduceEq, Int.reduceBEq, Int.reduceBNe, Int.reduceLT, Int.reduceLE, Int.reduceAdd, Int.reduceSub, Int.reduceNeg, Int.reduceToNat, Int.reducePow, Nat.reducePow, Int.reduceMul, Int.reduceDiv, ↓s_model_Model_set, h1, hix, hw]
  · rw [hv2]; exact s1.clk

/-- set, where there is no room. -/
theorem q_set_full (b : Nat) (l : List Pr) (i : Nat) (a : Pr) (H : AHeap) (r : Mdl H b l) (hl : l.length = 20000) :
    CC F.model_Model_set [.pointer (some ⟨b, 0, none⟩), .int .i64 (i : Int), .bool false, .agg #[.string a.key, .string a.value]] H = some (.int .i64 7, H) := by
  obtain ⟨v, h1, h2, h3, h4⟩ := r
  have hlen := h3.rd.lenS
  have he : (l.length : Int) = 20000 := by omega
  rw [he] at hlen
  apply pure_of _ (d_model_Model_set _ _ _ _ H) rfl
  rotate_left 2
  · simp (disch := first | with_reducible rfl | assumption | omega | rfl | (simp only [go_sem]; first | done | omega)) only [go_sem, ↓reduceIte, reduceCtorEq, Nat.reduceEqDiff, Nat.reduceAdd, Nat.reduceSub, Nat.reduceMul, Nat.reduceDiv, Nat.reduceMod, Nat.reduceLeDiff, Nat.reduceLT, Nat.reduceBEq, Int.reduceEq, Int.reduceBEq, Int.reduceBNe, Int.reduceLT, Int.reduceLE, Int.reduceAdd, Int.reduceSub, Int.reduceNeg, Int.reduceToNat, Int.reducePow, Nat.reducePow, Int.reduceMul, Int.reduceDiv, ↓s_model_Model_set, h1, hlen]
    rfl
  · (repeat (first | exact Fr.refl _ | refine Fr.push ?_ _ | refine Fr.set ?_ _ _ (by intro h; first | omega | (simp only [go_sem] at h; omega))))

/-- set, where the key is not there. -/
theorem q_set_new (b : Nat) (l : List Pr) (i : Nat) (a : Pr) (H : AHeap) (ok : Ok H) (r : Mdl H b l) (hi : i ≤ l.length) (hl : l.length < 20000) :
    ∃ H', CC F.model_Model_set [.pointer (some ⟨b, 0, none⟩), .int .i64 (i : Int), .bool false, .agg #[.string a.key, .string a.value]] H = some (.int .i64 0, H') ∧ Mdl H' b (l.take i ++ a :: l.drop i) ∧ Up H b H' := by
  obtain ⟨v, h1, h2, h3, h4⟩ := r
  have hlen := h3.rd.lenS
  have hne : ¬ (l.length : Int) = 20000 := by omega
  generalize hH1 : H.push (.cells [.string a.key, .string a.value] T.api_Pair true) = H1
  have s1 : Still H H1 := by rw [← hH1]; exact (Fr.refl H).push _
  have n1 : H1.n = H.n + 1 := by rw [← hH1]; rfl
  have f1 : H1.f H.n = .cells [.string a.key, .string a.value] T.api_Pair true := by rw [← hH1]; exact push_f_eq rfl
  have fb1 : H1.f b = .cells [v] T.model_Model true := by rw [s1.f h2 (fun h => h), h1]
  generalize hH2 : H1.push (.cells [.string a.key, .string a.value] T.api_Pair true) = H2
  have s2 : Still H1 H2 := by rw [← hH2]; exact (Fr.refl H1).push _
  have n2 : H2.n = H1.n + 1 := by rw [← hH2]; rfl
  have f2 : H2.f H1.n = .cells [.string a.key, .string a.value] T.api_Pair true := by rw [← hH2]; exact push_f_eq rfl
  have fb2 : H2.f b = .cells [v] T.model_Model true := by rw [s2.f (by omega) (fun h => h), fb1]
  have hnb : ∀ c, blockOf v = some c → c < H.n := fun c h => h3.blk h
  obtain ⟨v6, H4, hins, ho6, fr4, hb6⟩ := q_insert_Pair l v a H1.n i H2 ((h3.still s1).still s2) (by omega) hi (by omega) f2 (fun h => by have := hnb _ h; omega)
  have hone6 : one v6 = true := ho6.cell
  have fb4 : H4.f b = .cells [v] T.model_Model true := by rw [fr4.f (by omega) h4, fb2]
  have n4 : H2.n ≤ H4.n := fr4.n
  generalize hH5 : H4.set b (.cells [v6] T.model_Model true) = H5
  have f5 : Fr (MB H b) H H5 := by
    rw [← hH5]
    refine Fr.set ?_ b _ (fun _ => .inl rfl)
    refine (s1.then s2 fun _ _ h => h).still.then (S := MB H b) fr4 fun c hc h => .inr ⟨v, h1, h⟩
  have hup : Up H b H5 := UpT.of h1 f5 (v' := v6) (by rw [← hH5]; exact set_f_eq) fun c hc => by
    rcases hb6 with h | ⟨x, h, hx⟩
    · exact .inl (by rw [← h]; exact hc)
    · rw [h] at hc; cases hc; exact .inr (by omega)
  refine ⟨H5, (d_model_Model_set _ _ _ _ H (r := (.int .i64 0, H5)) ?_).trans (congrArg some (tidy_turned h2 (ok b) ?_)), ?_, hup⟩
  · simp (disch := first | with_reducible rfl | assumption | omega | rfl | (simp only [go_sem]; first | done | omega)) only [go_sem, ↓reduceIte, reduceCtorEq, Nat.reduceEqDiff, Nat.reduceAdd, Nat.reduceSub, Nat.reduceMul, Nat.reduceDiv, Nat.reduceMod, Nat.reduceLeDiff, Nat.reduceLT, Nat.reduceBEq, Int.reduceEq, Int.reduceBEq, Int.reduceBNe, Int.reduceLT, Int.reduceLE, Int.reduceAdd, Int.reduceSub, Int.reduceNeg, Int.reduceToNat, Int.reducePow, Nat.reducePow, Int.reduceMul, Int.reduceDiv, ↓s_model_Model_set, hH1, fb1, f1, hlen, hne, hH2, enterK_eq hins, fb4, hH5]
  · rw [← hH5, set_v_eq]
    exact Nat.le_trans s1.clk (Nat.le_trans s2.clk fr4.clk)
  · have hb6' : blockOf v6 ≠ some b := by
      rcases hb6 with h | ⟨x, h, hx⟩
      · rw [h]; exact h4
      · rw [h]; intro h; cases h; omega
    refine ⟨v6, by rw [← hH5]; exact set_f_eq, by rw [← hH5]; simp; omega, ?_, hb6'⟩
    rw [← hH5]
    exact ho6.keep (S := fun x => x = b) (Fr.set (Fr.refl H4) b _ fun _ => rfl) fun c hc h => hb6' (h ▸ hc)

/-- The block of a new value: nothing of the map. -/
theorem rdOne (a : ByteArray) (H : AHeap) : Rd EStr (H.push (.cells [.string a] T.string true)) (.slice (some ⟨H.n, 0, none⟩) 1 2) [a] := by
  refine .inr (.inr ⟨H.n, 0, 2, rfl, by simp, by simp, ?_⟩)
  rw [push_f_eq rfl]
  rfl

theorem MB_still {t : TypeId} {H H1 : AHeap} {b : Nat} {v : Value} (h1 : H.f b = .cells [v] t true) (h2 : b < H.n) (s : Still H H1) : ∀ c, c < H.n → MBT t H1 b c → MBT t H b c := by
  intro c hc h
  rcases h with h | ⟨u, hu, hb⟩
  · exact .inl h
  · rw [s.f h2 (fun h => h)] at hu
    exact .inr ⟨u, hu, hb⟩

/-- What Put makes of a map: the error and the map. -/
def putP (l : List Pr) (a : Pr) (p : Nat) : Int × List Pr :=
  if isP l a.key p = true then (0, l.set p a) else if l.length = 20000 then (7, l) else (0, l.take p ++ a :: l.drop p)

theorem isP_lt {l : List Pr} {key : ByteArray} {p : Nat} (h : isP l key p = true) : p < l.length := by
  rcases Nat.lt_or_ge p l.length with h' | h'
  · exact h'
  · unfold isP at h; rw [List.getElem?_eq_none h'] at h; cases h

theorem q_set (b : Nat) (l : List Pr) (a : Pr) (p : Nat) (H : AHeap) (ok : Ok H) (r : Mdl H b l) (hp : p ≤ l.length) (hl : l.length ≤ 20000) :
    ∃ H', CC F.model_Model_set [.pointer (some ⟨b, 0, none⟩), .int .i64 (p : Int), .bool (isP l a.key p), .agg #[.string a.key, .string a.value]] H = some (.int .i64 (putP l a p).1, H') ∧ Mdl H' b (putP l a p).2 ∧ Up H b H' := by
  unfold putP
  cases his : isP l a.key p with
  | true => exact q_set_is b l p a H ok r (isP_lt his)
  | false =>
    simp only [Bool.false_eq_true, if_false]
    by_cases hf : l.length = 20000
    · rw [if_pos hf]; exact ⟨H, q_set_full b l p a H r hf, r, Up.refl H b⟩
    · rw [if_neg hf]; exact q_set_new b l p a H ok r hp (by omega)

theorem q_Put_bad (b : Nat) (l : List Pr) (a : Pr) (H : AHeap) (r : Mdl H b l) (hc : chk a.key [a.value] ≠ 0) :
    CC F.model_Model_Put [.pointer (some ⟨b, 0, none⟩), .string a.key, .string a.value] H = some (.int .i64 (chk a.key [a.value]), H) := by
  have hat := q_at_bad b a.key [a.value] _ _ (rdOne a.value H) (by simp) hc
  generalize chk a.key [a.value] = e at hat hc
  apply pure_of _ (d_model_Model_Put _ _ _ H) rfl
  rotate_left 2
  · simp (disch := first | with_reducible rfl | assumption | omega | rfl | (simp only [go_sem]; first | done | omega)) only [go_sem, ↓reduceIte, reduceCtorEq, Nat.reduceEqDiff, Nat.reduceAdd, Nat.reduceSub, Nat.reduceMul, Nat.reduceDiv, Nat.reduceMod, Nat.reduceLeDiff, Nat.reduceLT, Nat.reduceBEq, Int.reduceEq, Int.reduceBEq, Int.reduceBNe, Int.reduceLT, Int.reduceLE, Int.reduceAdd, Int.reduceSub, Int.reduceNeg, Int.reduceToNat, Int.reducePow, Nat.reducePow, Int.reduceMul, Int.reduceDiv, ↓s_model_Model_Put, enterK_eq hat, hc]
    rfl
  · (repeat (first | exact Fr.refl _ | refine Fr.push ?_ _ | refine Fr.set ?_ _ _ (by intro h; first | omega | (simp only [go_sem] at h; omega))))

/-- A call that turns the map, behind a new block. -/
theorem after_push {t : TypeId} {H H1 H' : AHeap} {b : Nat} {l : List Pr} (r : MdlT t H b l) (s : Still H H1) (f : UpT t H1 b H') : UpT t H b H' := by
  obtain ⟨v, h1, h2, h3, h4⟩ := r
  refine ⟨s.still.then (S := MBT t H b) f.fr fun c hc h => MB_still h1 h2 s c hc h, fun c hc => ?_⟩
  rcases f.mb c hc with h | h
  · rcases Nat.lt_or_ge c H.n with h' | h'
    · exact .inl (MB_still h1 h2 s c h' h)
    · exact .inr h'
  · exact .inr (Nat.le_trans s.n h)

/-- What is told of a map behind a call that may have turned it: where the call is forgotten, nothing was. -/
theorem Mdl.tidied {t : TypeId} {H H' : AHeap} {b : Nat} {l l' : List Pr} {v : Value} (ok : Ok H) (r : MdlT t H b l) (hm : MdlT t H' b l') (hfr : UpT t H b H') : ∃ H'', tidy H (v, H') = (v, H'') ∧ MdlT t H'' b l' ∧ UpT t H b H'' := by
  unfold tidy
  split
  · rename_i hg
    simp only [Bool.and_eq_true] at hg
    refine ⟨H, rfl, ?_, UpT.refl H b⟩
    obtain ⟨v, h1, h2, h3, h4⟩ := r
    obtain ⟨v', h1', h2', h3', h4'⟩ := hm
    have hsame : ∀ c, c < H.n → H'.f c = H.f c := by
      intro c hc
      rcases hfr.fr.old c hc with h | ⟨h, _⟩
      · exact h.2
      · have := List.all_eq_true.1 hg.2 c (by simpa using hc)
        have := ok c
        simp at *
        omega
    rw [hsame b h2, h1] at h1'
    cases h1'
    refine ⟨v, h1, h2, ?_, h4⟩
    rcases h3' with h | ⟨hl, x, hv, hs, hb⟩ | ⟨bb, o, c, xs, hv, hlc, hb, hff, ho, hx⟩
    · exact .inl h
    · exact .inr (.inl ⟨hl, x, hv, hs, h3.blk (by rw [hv]; rfl)⟩)
    · have hbb : bb < H.n := h3.blk (by rw [hv]; rfl)
      exact .inr (.inr ⟨bb, o, c, xs, hv, hlc, hbb, by rw [← hsame bb hbb]; exact hff, ho, hx⟩)
  · exact ⟨H', rfl, hm, hfr⟩

theorem q_Put (b : Nat) (l : List Pr) (a : Pr) (H : AHeap) (ok : Ok H) (r : Mdl H b l) (hl : l.length ≤ 20000) (p : Nat) (hp : PosP l a.key p) (hc : chk a.key [a.value] = 0) :
    ∃ H', CC F.model_Model_Put [.pointer (some ⟨b, 0, none⟩), .string a.key, .string a.value] H = some (.int .i64 (putP l a p).1, H') ∧ Mdl H' b (putP l a p).2 ∧ Up H b H' := by
  have s1 : Still H (H.push (.cells [.string a.value] T.string true)) := (Fr.refl H).push _
  have r1 := r.still s1
  have hat := q_at b l a.key [a.value] _ _ r1 (by omega) p hp (rdOne a.value H) (by simp) hc
  obtain ⟨H', hset, hm, hf⟩ := q_set b l a p _ (ok.fr s1) r1 hp.1 hl
  have hfr := after_push r s1 hf
  obtain ⟨H'', ht, hm', hf'⟩ := Mdl.tidied (v := .int .i64 (putP l a p).1) ok r hm hfr
  refine ⟨H'', (d_model_Model_Put _ _ _ H (r := (.int .i64 (putP l a p).1, H')) ?_).trans (congrArg some ht), hm', hf'⟩
  simp (disch := first | with_reducible rfl | assumption | omega | rfl | (simp only [go_sem]; first | done | omega)) only [go_sem, ↓reduceIte, reduceCtorEq, Nat.reduceEqDiff, Nat.reduceAdd, Nat.reduceSub, Nat.reduceMul, Nat.reduceDiv, Nat.reduceMod, Nat.reduceLeDiff, Nat.reduceLT, Nat.reduceBEq, Int.reduceEq, Int.reduceBEq, Int.reduceBNe, Int.reduceLT, Int.reduceLE, Int.reduceAdd, Int.reduceSub, Int.reduceNeg, Int.reduceToNat, Int.reducePow, Nat.reducePow, Int.reduceMul, Int.reduceDiv, ↓s_model_Model_Put, enterK_eq hat, enterK_eq hset]

/-- What Insert makes of a map. -/
def insertP (l : List Pr) (a : Pr) (p : Nat) : Int × List Pr :=
  if isP l a.key p = true then (11, l) else if l.length = 20000 then (7, l) else (0, l.take p ++ a :: l.drop p)

theorem q_Delete_bad (b : Nat) (key : ByteArray) (H : AHeap) (hc : chk key [] ≠ 0) : CC F.model_Model_Delete [.pointer (some ⟨b, 0, none⟩), .string key] H = some (.tuple #[.string (mk []), .int .i64 (chk key [])], H) := by
  have hg := q_Get_bad b key H hc
  generalize chk key [] = e at hg hc
  apply pure_of _ (d_model_Model_Delete _ _ H) rfl
  rotate_left 2
  · simp (disch := first | with_reducible rfl | assumption | omega | rfl | (simp only [go_sem]; first | done | omega)) only [go_sem, ↓reduceIte, reduceCtorEq, Nat.reduceEqDiff, Nat.reduceAdd, Nat.reduceSub, Nat.reduceMul, Nat.reduceDiv, Nat.reduceMod, Nat.reduceLeDiff, Nat.reduceLT, Nat.reduceBEq, Int.reduceEq, Int.reduceBEq, Int.reduceBNe, Int.reduceLT, Int.reduceLE, Int.reduceAdd, Int.reduceSub, Int.reduceNeg, Int.reduceToNat, Int.reducePow, Nat.reducePow, Int.reduceMul, Int.reduceDiv, ↓s_model_Model_Delete, enterK_eq hg, hc]
    rfl
  · (repeat (first | exact Fr.refl _ | refine Fr.push ?_ _ | refine Fr.set ?_ _ _ (by intro h; first | omega | (simp only [go_sem] at h; omega))))

theorem q_Delete (b : Nat) (l : List Pr) (key : ByteArray) (H : AHeap) (ok : Ok H) (r : Mdl H b l) (hl : l.length ≤ 20000) (p : Nat) (hp : PosP l key p) (hc : chk key [] = 0) :
    ∃ H', CC F.model_Model_Delete [.pointer (some ⟨b, 0, none⟩), .string key] H = some (getP l key p, H') ∧ Mdl H' b (if isP l key p = true then l.take p ++ l.drop (p + 1) else l) ∧ Up H b H' := by
  have hg := q_Get b l key H r (by omega) p hp hc
  unfold getP at hg ⊢
  cases his : isP l key p with
  | false =>
    rw [his] at hg
    simp only [Bool.false_eq_true, if_false] at hg ⊢
    refine ⟨H, ?_, r, Up.refl H b⟩
    apply pure_of _ (d_model_Model_Delete _ _ H) rfl
    rotate_left 2
    · simp (disch := first | with_reducible rfl | assumption | omega | rfl | (simp only [go_sem]; first | done | omega)) only [go_sem, ↓reduceIte, reduceCtorEq, Nat.reduceEqDiff, Nat.reduceAdd, Nat.reduceSub, Nat.reduceMul, Nat.reduceDiv, Nat.reduceMod, Nat.reduceLeDiff, Nat.reduceLT, Nat.reduceBEq, Int.reduceEq, Int.reduceBEq, Int.reduceBNe, Int.reduceLT, Int.reduceLE, Int.reduceAdd, Int.reduceSub, Int.reduceNeg, Int.reduceToNat, Int.reducePow, Nat.reducePow, Int.reduceMul, Int.reduceDiv, ↓s_model_Model_Delete, enterK_eq hg]
      rfl
    · (repeat (first | exact Fr.refl _ | refine Fr.push ?_ _ | refine Fr.set ?_ _ _ (by intro h; first | omega | (simp only [go_sem] at h; omega))))
  | true =>
    have hlt := isP_lt his
    have hpl := q_place b l key H r (by omega) p hp
    rw [his] at hg
    simp only [if_true] at hg ⊢
    generalize (l[p]?).elim (mk []) Pr.value = old at hg ⊢
    obtain ⟨v, h1, h2, h3, h4⟩ := r
    obtain ⟨v6, H4, hdel, ho6, fr4, hb6⟩ := q_delete_Pair l v p H h3 (by omega) hlt
    have hone6 : one v6 = true := ho6.cell
    have fb4 : H4.f b = .cells [v] T.model_Model true := by rw [fr4.f h2 h4, h1]
    have n4 : H.n ≤ H4.n := fr4.n
    generalize hH5 : H4.set b (.cells [v6] T.model_Model true) = H5
    have f5 : Fr (MB H b) H H5 := by
      rw [← hH5]
      refine Fr.set ?_ b _ (fun _ => .inl rfl)
      exact fr4.mono fun c _ h => .inr ⟨v, h1, h⟩
    have hup : Up H b H5 := UpT.of h1 f5 (v' := v6) (by rw [← hH5]; exact set_f_eq) fun c hc => .inl (by rw [← hb6]; exact hc)
    refine ⟨H5, (d_model_Model_Delete _ _ H (r := (.tuple #[.string old, .int .i64 0], H5)) ?_).trans (congrArg some (tidy_turned h2 (ok b) ?_)), ?_, hup⟩
    · simp (disch := first | with_reducible rfl | assumption | omega | rfl | (simp only [go_sem]; first | done | omega)) only [go_sem, ↓reduceIte, reduceCtorEq, Nat.reduceEqDiff, Nat.reduceAdd, Nat.reduceSub, Nat.reduceMul, Nat.reduceDiv, Nat.reduceMod, Nat.reduceLeDiff, Nat.reduceLT, Nat.reduceBEq, Int.reduceEq, Int.reduceBEq, Int.reduceBNe, Int.reduceLT, Int.reduceLE, Int.reduceAdd, Int.reduceSub, Int.reduceNeg, Int.reduceToNat, Int.reducePow, Nat.reducePow, Int.reduceMul, Int.reduceDiv, ↓s_model_Model_Delete, enterK_eq hg, enterK_eq hpl, h1, enterK_eq hdel, fb4, hH5]
    · rw [← hH5, set_v_eq]
      exact fr4.clk
    · refine ⟨v6, by rw [← hH5]; exact set_f_eq, by rw [← hH5]; simp; omega, ?_, by rw [hb6]; exact h4⟩
      rw [← hH5]
      refine ho6.keep (S := fun x => x = b) (Fr.set (Fr.refl H4) b _ fun _ => rfl) ?_
      intro c hc h
      rw [hb6, h] at hc
      exact h4 hc

end Go.Proofs.Ytmbppjilnnjdaaa

/-
  The plain map: Swap, Range, Min, Max, Len, Pairs, Copy, Equal, Of.
  Conditions: none. By an AI agent.
-/
set_option maxRecDepth 10000
set_option linter.unusedSimpArgs false
set_option linter.unusedVariables false
namespace Go.Proofs.Ytmbppjilnnjdaaa
open Go Eng

@[go_sem] theorem xload_Pair {a : Value} {H : AHeap} : xload Try.prog T.api_Pair a H = ldN 2 H a := by kernel_rfl
theorem pair_ne {ox oy : Operand} {a b : Pr} : xbin Try.prog .neq T.api_Pair ox oy (.agg #[.string a.key, .string a.value]) (.agg #[.string b.key, .string b.value]) = some (.bool (!(decide (bl a.key = bl b.key) && decide (bl a.value = bl b.value)))) := by
  have h := agg_ne (P := Try.prog) (t := T.api_Pair) (xs := [.string a.key, .string a.value]) (ys := [.string b.key, .string b.value]) (ox := ox) (oy := oy) Try.underlying54 (by kernel_rfl) (by kernel_rfl) (by kernel_rfl) rfl rfl
  rw [h]
  simp [ceqs, ceq]
theorem pair_eq {ox oy : Operand} {a b : Pr} : xbin Try.prog .eql T.api_Pair ox oy (.agg #[.string a.key, .string a.value]) (.agg #[.string b.key, .string b.value]) = some (.bool (decide (bl a.key = bl b.key) && decide (bl a.value = bl b.value))) := by
  have h := agg_eq (P := Try.prog) (t := T.api_Pair) (xs := [.string a.key, .string a.value]) (ys := [.string b.key, .string b.value]) (ox := ox) (oy := oy) Try.underlying54 (by kernel_rfl) (by kernel_rfl) (by kernel_rfl) rfl rfl
  rw [h]
  simp [ceqs, ceq]
theorem pr_ext {a b : Pr} : a = b ↔ bl a.key = bl b.key ∧ bl a.value = bl b.value := by
  constructor
  · rintro rfl; exact ⟨rfl, rfl⟩
  · rintro ⟨h1, h2⟩
    cases a; cases b
    simp only at h1 h2
    rw [bl_inj h1, bl_inj h2]

/-! ### Swap -/
theorem rdTwo (a c : ByteArray) (H : AHeap) : Rd EStr (H.push (.cells [.string a, .string c] T.string true)) (.slice (some ⟨H.n, 0, none⟩) 2 4) [a, c] := by
  refine .inr (.inr ⟨H.n, 0, 4, rfl, by simp, by simp, ?_⟩)
  rw [push_f_eq rfl]
  rfl

/-- What Swap makes of a map. -/
def swapP (l : List Pr) (key old new : ByteArray) (p : Nat) : Int × List Pr :=
  if isP l key p = true then (if bl ((l[p]?).elim (mk []) Pr.value) = bl old then (0, l.set p ⟨key, new⟩) else (11, l)) else (9, l)

/-! ### Len, Pairs, Copy, Min, Max -/
/-- A slice whose block, if it has one, is new. -/
def New (H : AHeap) (v : Value) : Prop := ∀ b, blockOf v = some b → H.n ≤ b

theorem own_tidied {H H' : AHeap} {v : Value} {l : List Pr} (ho : Own EPr H' T.api_Pair v l) (hs : Still H H') (hn : New H v) {x : Res} (hx : x = some (tidy H (v, H'))) :
    ∃ H'', x = some (v, H'') ∧ Own EPr H'' T.api_Pair v l ∧ Still H H'' ∧ New H v := by
  unfold tidy at hx
  split at hx
  · rename_i hg
    simp only [Bool.and_eq_true] at hg
    refine ⟨H, hx, ?_, Fr.refl _, hn⟩
    rcases ho with h | ⟨_, a, h, _⟩ | ⟨b, o, c, xs, h, _⟩
    · exact .inl h
    · rw [h] at hg; exact absurd hg.1 (by simp [gr])
    · rw [h] at hg; exact absurd hg.1 (by simp [gr])
  · exact ⟨H', hx, ho, hs, hn⟩

theorem q_Pairs (b : Nat) (l : List Pr) (H : AHeap) (r : Mdl H b l) (hl : l.length ≤ 1000000000000) :
    ∃ v' H', CC F.model_Model_Pairs [.pointer (some ⟨b, 0, none⟩)] H = some (v', H') ∧ Own EPr H' T.api_Pair v' l ∧ Still H H' ∧ New H v' := by
  obtain ⟨v, h1, h2, h3, h4⟩ := r
  obtain ⟨v', H', hcl, ho, hs, hn⟩ := q_clone_Pair l v H h3.rd hl
  obtain ⟨H'', h⟩ := own_tidied ho hs hn (d_model_Model_Pairs (.pointer (some ⟨b, 0, none⟩)) H (r := (v', H')) (by simp (disch := first | with_reducible rfl | assumption | omega | rfl | (simp only [go_sem]; first | done | omega)) only [go_sem, ↓reduceIte, reduceCtorEq, Nat.reduceEqDiff, Nat.reduceAdd, Nat.reduceSub, Nat.reduceMul, Nat.reduceDiv, Nat.reduceMod, Nat.reduceLeDiff, Nat.reduceLT, Nat.reduceBEq, Int.reduceEq, Int.reduceBEq, Int.reduceBNe, Int.reduceLT, Int.reduceLE, Int.reduceAdd, Int.reduceSub, Int.reduceNeg, Int.reduceToNat, Int.reducePow, Nat.reducePow, Int.reduceMul, Int.reduceDiv, ↓s_model_Model_Pairs, mp_some, h1, enterK_eq hcl]))
  exact ⟨v', H'', h⟩

theorem q_MCopy (b : Nat) (l : List Pr) (H : AHeap) (r : Mdl H b l) (hl : l.length ≤ 1000000000000) :
    ∃ b' H', CC F.model_Model_Copy [.pointer (some ⟨b, 0, none⟩)] H = some (.pointer (some ⟨b', 0, none⟩), H') ∧ Mdl H' b' l ∧ Still H H' ∧ H.n ≤ b' ∧ (∀ c, MB H' b' c → H.n ≤ c) := by
  obtain ⟨v, h1, h2, h3, h4⟩ := r
  obtain ⟨v5, H2, hcl, ho5, s2, hn5⟩ := q_clone_Pair l v H h3.rd hl
  have n2 : H.n ≤ H2.n := s2.n
  refine ⟨H2.n, H2.push (.cells [v5] T.model_Model true), (d_model_Model_Copy _ H (r := (.pointer (some ⟨H2.n, 0, none⟩), _)) ?_).trans (congrArg some (tidy_mem rfl)), ?_, s2.push _, n2, ?_⟩
  · obtain ⟨a, n, c, hv5⟩ : ∃ a n c, v5 = .slice a n c := by
      rcases ho5 with ⟨_, h⟩ | ⟨_, a, h, _⟩ | ⟨b, o, c, xs, h, _⟩ <;> exact ⟨_, _, _, h⟩
    subst hv5
    simp (disch := first | with_reducible rfl | assumption | omega | rfl | (simp only [go_sem]; first | done | omega)) only [go_sem, ↓reduceIte, reduceCtorEq, Nat.reduceEqDiff, Nat.reduceAdd, Nat.reduceSub, Nat.reduceMul, Nat.reduceDiv, Nat.reduceMod, Nat.reduceLeDiff, Nat.reduceLT, Nat.reduceBEq, Int.reduceEq, Int.reduceBEq, Int.reduceBNe, Int.reduceLT, Int.reduceLE, Int.reduceAdd, Int.reduceSub, Int.reduceNeg, Int.reduceToNat, Int.reducePow, Nat.reducePow, Int.reduceMul, Int.reduceDiv, ↓s_model_Model_Copy, mp_some, h1, enterK_eq hcl]
  · refine ⟨v5, push_f_eq rfl, by simp, ho5.still ((Fr.refl _).push _), fun h => by have := ho5.blk h; omega⟩
  · intro c h
    rcases h with h | ⟨u, hu, hb⟩
    · omega
    · rw [push_f_eq rfl] at hu
      cases hu
      exact hn5 c hb

/-- The first pair, the last pair. -/
def endV (a : Option Pr) : Value := match a with | some a => .tuple #[.agg #[.string a.key, .string a.value], .int .i64 0] | none => .tuple #[.agg #[.string (mk []), .string (mk [])], .int .i64 9]

end Go.Proofs.Ytmbppjilnnjdaaa

/-
  The order of strings.
  Conditions: none. By an AI agent.
-/
set_option maxRecDepth 10000
set_option linter.unusedSimpArgs false
set_option linter.unusedVariables false
namespace Go.Proofs.Ytmbppjilnnjdaaa
open Go Eng

theorem u8_lt {a b : UInt8} : a < b ↔ a.toNat < b.toNat := UInt8.lt_iff_toNat_lt
theorem u8_eq {a b : UInt8} : a = b ↔ a.toNat = b.toNat := UInt8.toNat_inj.symm

theorem cb_eq : ∀ {a b : List UInt8}, Lib.compareBytes a b = 0 ↔ a = b
  | [], [] => by simp [Lib.compareBytes]
  | [], _ :: _ => by simp [Lib.compareBytes]
  | _ :: _, [] => by simp [Lib.compareBytes]
  | a :: x, b :: y => by
    unfold Lib.compareBytes
    by_cases h1 : a < b
    · have := u8_lt.1 h1
      simp only [if_pos h1]
      constructor
      · intro h; cases h
      · intro h; cases h; omega
    · by_cases h2 : b < a
      · have := u8_lt.1 h2
        simp only [if_neg h1, if_pos h2]
        constructor
        · intro h; cases h
        · intro h; cases h; omega
      · have h3 : a = b := u8_eq.2 (by rw [u8_lt] at h1 h2; omega)
        subst h3
        simp only [if_neg h1]
        rw [cb_eq]
        simp
theorem cb_lt : ∀ {a b : List UInt8}, Op.bytesLess a b = true ↔ Lib.compareBytes a b < 0
  | [], [] => by simp [Lib.compareBytes, Op.bytesLess]
  | [], _ :: _ => by simp [Lib.compareBytes, Op.bytesLess]
  | _ :: _, [] => by simp [Lib.compareBytes, Op.bytesLess]
  | a :: x, b :: y => by
    unfold Lib.compareBytes
    rw [Op.bytesLess, Bool.or_eq_true, Bool.and_eq_true, cb_lt]
    by_cases h1 : a < b
    · simp [h1]
    · by_cases h2 : b < a
      · have h3 : ¬ a = b := fun h => by subst h; exact h1 h2
        simp [h1, h2, h3]
      · have h3 : a = b := u8_eq.2 (by rw [u8_lt] at h1 h2; omega)
        subst h3
        simp [h1]
theorem cb_swap : ∀ {a b : List UInt8}, Lib.compareBytes b a = - Lib.compareBytes a b
  | [], [] => by simp [Lib.compareBytes]
  | [], _ :: _ => by simp [Lib.compareBytes]
  | _ :: _, [] => by simp [Lib.compareBytes]
  | a :: x, b :: y => by
    unfold Lib.compareBytes
    by_cases h1 : a < b
    · have h2 : ¬ b < a := by rw [u8_lt] at h1 ⊢; omega
      simp [h1, h2]
    · by_cases h2 : b < a
      · simp [h1, h2]
      · simp only [if_neg h1, if_neg h2]
        exact cb_swap
theorem cb_trans : ∀ {a b c : List UInt8}, Lib.compareBytes a b < 0 → Lib.compareBytes b c < 0 → Lib.compareBytes a c < 0
  | _, b, [], _, h => by cases b <;> simp [Lib.compareBytes] at h
  | a, [], _ :: _, h, _ => by cases a <;> simp [Lib.compareBytes] at h
  | [], _ :: _, _ :: _, _, _ => by simp [Lib.compareBytes]
  | a :: x, b :: y, c :: z, h1, h2 => by
    rw [Lib.compareBytes] at h1 h2 ⊢
    by_cases p : a < b
    · by_cases q : b < c
      · have : a < c := by rw [u8_lt] at p q ⊢; omega
        rw [if_pos this]; decide
      · rw [if_neg q] at h2
        by_cases q' : c < b
        · rw [if_pos q'] at h2; cases h2
        · have : a < c := by rw [u8_lt] at p q q' ⊢; omega
          rw [if_pos this]; decide
    · rw [if_neg p] at h1
      by_cases p' : b < a
      · rw [if_pos p'] at h1; cases h1
      · rw [if_neg p'] at h1
        have e : a = b := u8_eq.2 (by rw [u8_lt] at p p'; omega)
        subst e
        by_cases q : a < c
        · rw [if_pos q]; decide
        · rw [if_neg q] at h2 ⊢
          by_cases q' : c < a
          · rw [if_pos q'] at h2; cases h2
          · rw [if_neg q'] at h2 ⊢
            exact cb_trans h1 h2

theorem cmpS_self (a : ByteArray) : cmpS a a = 0 := cb_eq.2 rfl
theorem bl_inj {a b : ByteArray} (h : bl a = bl b) : a = b := by
  cases a; cases b; unfold bl at h
  congr 1
  exact Array.toList_inj.1 h
theorem cmpS_eq {a b : ByteArray} : cmpS a b = 0 ↔ a = b := ⟨fun h => bl_inj (cb_eq.1 h), fun h => by subst h; exact cmpS_self a⟩
theorem cmpS_swap (a b : ByteArray) : cmpS b a = - cmpS a b := cb_swap
theorem cmpS_trans {a b c : ByteArray} : cmpS a b < 0 → cmpS b c < 0 → cmpS a c < 0 := cb_trans
theorem less_cmpS (a b : ByteArray) : Op.bytesLess (bl a) (bl b) = decide (cmpS a b < 0) := by
  rw [Bool.eq_iff_iff, cb_lt, decide_eq_true_iff]; rfl
theorem leq_cmpS (a b : ByteArray) : (Op.bytesLess (bl a) (bl b) || bl a == bl b) = decide (cmpS a b ≤ 0) := by
  rw [Bool.eq_iff_iff, Bool.or_eq_true, cb_lt, decide_eq_true_iff, beq_iff_eq, ← cb_eq]
  show (cmpS a b < 0 ∨ cmpS a b = 0) ↔ _
  omega

end Go.Proofs.Ytmbppjilnnjdaaa

/-
  The plain map: Range, Equal, Of.
  Conditions: none. By an AI agent.
-/
set_option maxRecDepth 10000
set_option linter.unusedSimpArgs false
set_option linter.unusedVariables false
namespace Go.Proofs.Ytmbppjilnnjdaaa
open Go Eng

/-- A part in the middle that is only read. -/
theorem Own.mid {α : Type} {E : Enc α} {H : AHeap} {e : TypeId} {v : Value} {l : List α} (r : Own E H e v l) {sz : Nat} (hsz : sz = E.w) {i j : Nat} (hi : i ≤ j) (hj : j ≤ l.length) {q q' : IntKind} :
    ∃ v', slS e sz v (some (.int q (i : Int))) (some (.int q' (j : Int))) none H = some v' ∧ Rd E H v' ((l.drop i).take (j - i)) := by
  subst hsz
  rcases r with ⟨rfl, rfl⟩ | ⟨rfl, ⟨b, o, s⟩, rfl, hs, hbb⟩ | ⟨b, o, c, xs, rfl, hl, hbn, hf, ho, hx⟩
  · simp only [List.length_nil, Nat.le_zero_eq] at hj
    subst hj
    simp only [Nat.le_zero_eq] at hi
    subst hi
    exact ⟨.slice none 0 0, rfl, .inl ⟨by simp, rfl⟩⟩
  · simp only at hs
    subst hs
    simp only [List.length_nil, Nat.le_zero_eq] at hj
    subst hj
    simp only [Nat.le_zero_eq] at hi
    subst hi
    exact ⟨.slice (some ⟨b, o, none⟩) 0 0, by simp [slS, lowOf, highOf, bnd], .inr (.inl ⟨by simp, _, _, rfl, rfl⟩)⟩
  · have hmul := Nat.mul_le_mul_right E.w hl
    have hmj := Nat.mul_le_mul_right E.w hj
    have hmi := Nat.mul_le_mul_right E.w hi
    refine ⟨_, sl_lohi hf hi (Nat.le_trans hj hl), ?_⟩
    have hlen : ((l.drop i).take (j - i)).length = j - i := by simp; omega
    by_cases h0 : j - i = 0
    · rw [h0]; exact .inr (.inl ⟨by simp, _, _, rfl, rfl⟩)
    · refine .inr (.inr ⟨b, _, _, by rw [hlen], fun h => h0 (by rw [← hlen, h]; rfl), hbn, ?_⟩)
      have hsub : (j - i) * E.w = j * E.w - i * E.w := Nat.sub_mul _ _ _
      rw [hlen, hf, cutB_c (by omega), ← E.cells_take, ← E.cells_drop, ← hx, List.drop_take, List.take_take, List.drop_drop, Nat.min_eq_left (by omega)]

/-- The same where the value stands in a tuple behind a number. -/
theorem own_tidied2 {H H' : AHeap} {v : Value} {l : List Pr} {n : Int} (ho : Own EPr H' T.api_Pair v l) (hs : Still H H') (hn : New H v) {x : Res} (hx : x = some (tidy H (.tuple #[v, .int .i64 n], H'))) :
    ∃ H'', x = some (.tuple #[v, .int .i64 n], H'') ∧ Own EPr H'' T.api_Pair v l ∧ Still H H'' := by
  unfold tidy at hx
  split at hx
  · rename_i hg
    simp only [Bool.and_eq_true] at hg
    refine ⟨H, hx, ?_, Fr.refl _⟩
    rcases ho with h | ⟨_, a, h, _⟩ | ⟨b, o, c, xs, h, _⟩
    · exact .inl h
    · rw [h] at hg; exact absurd hg.1 (by simp [gr])
    · rw [h] at hg; exact absurd hg.1 (by simp [gr])
  · exact ⟨H', hx, ho, hs⟩

/-- What Range answers. -/
def rangeP (l : List Pr) (p q n : Nat) : List Pr := (l.drop p).take (min q (p + n) - p)

end Go.Proofs.Ytmbppjilnnjdaaa

/-
  The plain map: Equal, Of.
  Conditions: none. By an AI agent.
-/
set_option maxRecDepth 10000
set_option linter.unusedSimpArgs false
set_option linter.unusedVariables false
namespace Go.Proofs.Ytmbppjilnnjdaaa
open Go Eng

instance : DecidableEq Pr := fun a b => decidable_of_iff (bl a.key = bl b.key ∧ bl a.value = bl b.value) pr_ext.symm
theorem pair_ne' {ox oy : Operand} {a b : Pr} : xbin Try.prog .neq T.api_Pair ox oy (.agg #[.string a.key, .string a.value]) (.agg #[.string b.key, .string b.value]) = some (.bool (!decide (a = b))) := by
  rw [pair_ne, ← Bool.decide_and, decide_eq_decide.2 pr_ext]
theorem pair_eq' {ox oy : Operand} {a b : Pr} : xbin Try.prog .eql T.api_Pair ox oy (.agg #[.string a.key, .string a.value]) (.agg #[.string b.key, .string b.value]) = some (.bool (decide (a = b))) := by
  rw [pair_eq, ← Bool.decide_and, decide_eq_decide.2 pr_ext]

theorem drop_cons {α : Type} {l x : List α} {a : α} {i : Nat} (h : l.drop i = a :: x) : ∃ hi : i < l.length, l[i] = a ∧ l.drop (i + 1) = x := by
  have hi : i < l.length := by
    rcases Nat.lt_or_ge i l.length with h' | h'
    · exact h'
    · rw [List.drop_eq_nil_of_le h'] at h; cases h
  rw [List.drop_eq_getElem_cons hi] at h
  exact ⟨hi, (List.cons.inj h).1, (List.cons.inj h).2⟩

/-! ### Of -/
/-- The error of a list of pairs: of the pairs behind the one before. -/
def ofErr : Option Pr → List Pr → Int
  | _, [] => 0
  | o, a :: l => if chk a.key [a.value] ≠ 0 then chk a.key [a.value] else if (o.elim false fun b => decide (0 ≤ cmpS b.key a.key)) = true then 13 else ofErr (some a) l


theorem l_ofP (l : List Pr) (v : Value) (Hz : AHeap) (hr0 : Rd EPr Hz v l) (hl : l.length < 1152921504606846976) (K : K) : ∀ (x : List Pr) (i : Nat) (H : AHeap) (o : Option Pr), l.drop i = x → Still Hz H → i ≤ l.length → (if i = 0 then none else l[i - 1]?) = o → ∃ H', Still Hz H' ∧
    (l_model_Of_0 v v (.int .i64 l.length) (.int .i64 i) H (blkK [0] 0 K) = if ofErr o x = 0 then K .normal [(0, v)] H' else K .ret [(2, .pointer none), (3, .int .i64 (ofErr o x))] H')
  | [], i, H, o, hx, hs, hi, ho => by
    have h : l.length ≤ i := List.drop_eq_nil_iff.1 hx
    have hlt : ¬ (i : Int) < (l.length : Int) := by omega
    refine ⟨H, hs, ?_⟩
    rw [r_model_Of_0]
    simp only [ofErr, if_true]
    simp (disch := first | with_reducible rfl | assumption | omega | rfl | (simp only [go_sem]; first | done | omega)) only [go_sem, ↓reduceIte, reduceCtorEq, Nat.reduceEqDiff, Nat.reduceAdd, Nat.reduceSub, Nat.reduceMul, Nat.reduceDiv, Nat.reduceMod, Nat.reduceLeDiff, Nat.reduceLT, Nat.reduceBEq, Int.reduceEq, Int.reduceBEq, Int.reduceBNe, Int.reduceLT, Int.reduceLE, Int.reduceAdd, Int.reduceSub, Int.reduceNeg, Int.reduceToNat, Int.reducePow, Nat.reducePow, Int.reduceMul, Int.reduceDiv, ↓s_model_Of_b0, hlt]
  | a :: x, i, H, o, hx, hs, hi, ho => by
    obtain ⟨h, hxa, hx'⟩ := drop_cons hx
    have hlt : (i : Int) < (l.length : Int) := by omega
    obtain ⟨b1, o1, hix1, hb1, hc1, _⟩ := (hr0.still hs).ix (q := .i64) h
    rw [hxa] at hc1
    have hix1 : ixS 2 v (.int .i64 i) = some (.pointer (some ⟨b1, o1, none⟩)) := hix1
    have hc1 : cutB (H.f b1) o1 2 = some [.string a.key, .string a.value] := hc1
    generalize hH1 : (H.push (.cells [.string (mk []), .string (mk [])] T.api_Pair true)).set H.n (.cells [.string a.key, .string a.value] T.api_Pair true) = H1
    have s1 : Still H H1 := by rw [← hH1]; exact Fr.set ((Fr.refl H).push _) _ _ (fun h => by omega)
    have n1 : H1.n = H.n + 1 := by rw [← hH1]; rfl
    have f1 : H1.f H.n = .cells [.string a.key, .string a.value] T.api_Pair true := by rw [← hH1]; exact set_f_eq
    generalize hH2 : H1.push (.cells [.string a.value] T.string true) = H2
    have s2 : Still H1 H2 := by rw [← hH2]; exact (Fr.refl H1).push _
    have hck := q_check a.key [a.value] _ _ (rdOne a.value H1) (by simp)
    rw [hH2] at hck
    have f2 : H2.f H.n = .cells [.string a.key, .string a.value] T.api_Pair true := by rw [s2.f (by omega) (fun h => h), f1]
    have st : Still Hz H2 := (hs.then s1 fun _ _ h => h).still.then s2 fun _ _ h => h
    by_cases hchk : chk a.key [a.value] = 0
    · rw [hchk] at hck
      cases i with
      | zero =>
        have ho' : o = none := by rw [← ho]; rfl
        subst ho'
        obtain ⟨H', hs', ih⟩ := l_ofP l v Hz hr0 hl K x 1 H2 (some a) hx' st (by omega) (by simp [← hxa])
        refine ⟨H', hs', ?_⟩
        have e : ofErr none (a :: x) = ofErr (some a) x := by simp [ofErr, hchk]
        have hlt : (0 : Int) < (l.length : Int) := hlt
        have hix1 : ixS 2 v (.int .i64 0) = some (.pointer (some ⟨b1, o1, none⟩)) := hix1
        rw [e, r_model_Of_0]
        simp (disch := first | with_reducible rfl | assumption | omega | rfl | (simp only [go_sem]; first | done | omega)) only [go_sem, ↓reduceIte, reduceCtorEq, Nat.reduceEqDiff, Nat.reduceAdd, Nat.reduceSub, Nat.reduceMul, Nat.reduceDiv, Nat.reduceMod, Nat.reduceLeDiff, Nat.reduceLT, Nat.reduceBEq, Int.reduceEq, Int.reduceBEq, Int.reduceBNe, Int.reduceLT, Int.reduceLE, Int.reduceAdd, Int.reduceSub, Int.reduceNeg, Int.reduceToNat, Int.reducePow, Nat.reducePow, Int.reduceMul, Int.reduceDiv, ↓s_model_Of_b0, hlt, hix1, hc1, hH1, f1, hH2, enterK_eq hck]
        exact ih
      | succ k =>
        have hk : k < l.length := by omega
        have ho' : o = some l[k] := by rw [← ho]; simp [hk]
        subst ho'
        obtain ⟨b2, o2, hix2, hb2, hc2, _⟩ := (hr0.still hs).ix (q := .i64) hk
        have hix2 : ixS 2 v (.int .i64 k) = some (.pointer (some ⟨b2, o2, none⟩)) := hix2
        have hc2 : cellB (H.f b2) o2 = some (.string l[k].key) := cutB_cell hc2 (i := 0) (by decide)
        have fb2 : H2.f b2 = H.f b2 := by rw [s2.f (by omega) (fun h => h), s1.f hb2 (fun h => h)]
        obtain ⟨H', hs', ih⟩ := l_ofP l v Hz hr0 hl K x (k + 1 + 1) H2 (some a) hx' st (by omega) (by simp [← hxa])
        have hsub : ((k : Int) + 1 - 1) = (k : Int) := by omega
        have hlt : (k : Int) + 1 < (l.length : Int) := by omega
        have hpos : (0 : Int) < (k : Int) + 1 := by omega
        have hix1 : ixS 2 v (.int .i64 ((k : Int) + 1)) = some (.pointer (some ⟨b1, o1, none⟩)) := hix1
        rw [Int.natCast_add, Int.natCast_add] at ih
        by_cases hge : 0 ≤ cmpS l[k].key a.key
        · have hd : decide (0 ≤ cmpS l[k].key a.key) = true := decide_eq_true hge
          have e : ofErr (some l[k]) (a :: x) = 13 := by simp [ofErr, hchk, hge]
          refine ⟨H2, st, ?_⟩
          rw [e, r_model_Of_0, Int.natCast_add]
          simp (disch := first | with_reducible rfl | assumption | omega | rfl | (simp only [go_sem]; first | done | omega)) only [go_sem, ↓reduceIte, reduceCtorEq, Nat.reduceEqDiff, Nat.reduceAdd, Nat.reduceSub, Nat.reduceMul, Nat.reduceDiv, Nat.reduceMod, Nat.reduceLeDiff, Nat.reduceLT, Nat.reduceBEq, Int.reduceEq, Int.reduceBEq, Int.reduceBNe, Int.reduceLT, Int.reduceLE, Int.reduceAdd, Int.reduceSub, Int.reduceNeg, Int.reduceToNat, Int.reducePow, Nat.reducePow, Int.reduceMul, Int.reduceDiv, ↓s_model_Of_b0, hlt, hix1, hc1, hH1, f1, hH2, enterK_eq hck, hpos, hsub, hix2, fb2, hc2, f2, e_KCompare, hd]
        · have hd : decide (0 ≤ cmpS l[k].key a.key) = false := decide_eq_false hge
          have e : ofErr (some l[k]) (a :: x) = ofErr (some a) x := by simp [ofErr, hchk, hge]
          refine ⟨H', hs', ?_⟩
          rw [e, r_model_Of_0, Int.natCast_add]
          simp (disch := first | with_reducible rfl | assumption | omega | rfl | (simp only [go_sem]; first | done | omega)) only [go_sem, ↓reduceIte, reduceCtorEq, Nat.reduceEqDiff, Nat.reduceAdd, Nat.reduceSub, Nat.reduceMul, Nat.reduceDiv, Nat.reduceMod, Nat.reduceLeDiff, Nat.reduceLT, Nat.reduceBEq, Int.reduceEq, Int.reduceBEq, Int.reduceBNe, Int.reduceLT, Int.reduceLE, Int.reduceAdd, Int.reduceSub, Int.reduceNeg, Int.reduceToNat, Int.reducePow, Nat.reducePow, Int.reduceMul, Int.reduceDiv, ↓s_model_Of_b0, hlt, hix1, hc1, hH1, f1, hH2, enterK_eq hck, hpos, hsub, hix2, fb2, hc2, f2, e_KCompare, hd]
          exact ih
    · have e : ofErr o (a :: x) = chk a.key [a.value] := by simp [ofErr, hchk]
      refine ⟨H2, st, ?_⟩
      rw [e, if_neg hchk]
      generalize chk a.key [a.value] = y at hchk hck
      rw [r_model_Of_0]
      simp (disch := first | with_reducible rfl | assumption | omega | rfl | (simp only [go_sem]; first | done | omega)) only [go_sem, ↓reduceIte, reduceCtorEq, Nat.reduceEqDiff, Nat.reduceAdd, Nat.reduceSub, Nat.reduceMul, Nat.reduceDiv, Nat.reduceMod, Nat.reduceLeDiff, Nat.reduceLT, Nat.reduceBEq, Int.reduceEq, Int.reduceBEq, Int.reduceBNe, Int.reduceLT, Int.reduceLE, Int.reduceAdd, Int.reduceSub, Int.reduceNeg, Int.reduceToNat, Int.reducePow, Nat.reducePow, Int.reduceMul, Int.reduceDiv, ↓s_model_Of_b0, hlt, hix1, hc1, hH1, f1, hH2, enterK_eq hck, hchk]

/-- What Of answers. -/
theorem q_Of_err (l : List Pr) (v : Value) (H : AHeap) (hr : Rd EPr H v l) (hl : l.length < 1152921504606846976) (h : ofErr none l ≠ 0) : CC F.model_Of [v] H = some (.tuple #[.pointer none, .int .i64 (ofErr none l)], H) := by
  have hlen := hr.lenS
  obtain ⟨H', hs, hloop⟩ := l_ofP l v H hr hl (seqK (fun tT h2 => bareK (lenS (get tT 0)) h2 fun t39 h3 =>
    bareK (xbin Try.prog .gtr T.int (.tmp 39) (.const (.int .i64 20000)) t39 (.int .i64 20000)) h3 fun t40 h4 =>
    condL t40 (fun k2 => k2 .ret [(2, (.pointer none)), (3, (.int .i64 7))] h4) (fun k2 =>
    k2 .normal [(0, (get tT 0))] h4) (seqK (fun tT_1 h5 =>
    enterK CC F.slices_Clone_Pair [(get tT_1 0)] h5 fun t42 h6 =>
    bareK (bldS #[(.slice none 0 0)] [(0, 1)] [(0, t42)]) h6 fun t43 h7 =>
    bothK (newv T.model_Model t43 h7) fun t44 h8 =>
    endK Try.prog [.tmp 2, .tmp 3] .ret [(2, t44), (3, (.int .i64 0))] h8) (endK Try.prog [.tmp 2, .tmp 3]))) (endK Try.prog [.tmp 2, .tmp 3])) l 0 H none rfl (Fr.refl H) (by omega) rfl
  rw [if_neg h] at hloop
  generalize ofErr none l = e at hloop h
  apply pure_of _ (d_model_Of _ H) rfl
  rotate_left 2
  · simp (disch := first | with_reducible rfl | assumption | omega | rfl | (simp only [go_sem]; first | done | omega)) only [go_sem, ↓reduceIte, reduceCtorEq, Nat.reduceEqDiff, Nat.reduceAdd, Nat.reduceSub, Nat.reduceMul, Nat.reduceDiv, Nat.reduceMod, Nat.reduceLeDiff, Nat.reduceLT, Nat.reduceBEq, Int.reduceEq, Int.reduceBEq, Int.reduceBNe, Int.reduceLT, Int.reduceLE, Int.reduceAdd, Int.reduceSub, Int.reduceNeg, Int.reduceToNat, Int.reducePow, Nat.reducePow, Int.reduceMul, Int.reduceDiv, ↓s_model_Of, hlen]
    exact hloop
  · exact hs

theorem q_Of_full (l : List Pr) (v : Value) (H : AHeap) (hr : Rd EPr H v l) (hl : l.length < 1152921504606846976) (h : ofErr none l = 0) (hf : 20000 < l.length) : CC F.model_Of [v] H = some (.tuple #[.pointer none, .int .i64 7], H) := by
  have hlen := hr.lenS
  have hgt : (20000 : Int) < (l.length : Int) := by omega
  obtain ⟨H', hs, hloop⟩ := l_ofP l v H hr hl (seqK (fun tT h2 => bareK (lenS (get tT 0)) h2 fun t39 h3 =>
    bareK (xbin Try.prog .gtr T.int (.tmp 39) (.const (.int .i64 20000)) t39 (.int .i64 20000)) h3 fun t40 h4 =>
    condL t40 (fun k2 => k2 .ret [(2, (.pointer none)), (3, (.int .i64 7))] h4) (fun k2 =>
    k2 .normal [(0, (get tT 0))] h4) (seqK (fun tT_1 h5 =>
    enterK CC F.slices_Clone_Pair [(get tT_1 0)] h5 fun t42 h6 =>
    bareK (bldS #[(.slice none 0 0)] [(0, 1)] [(0, t42)]) h6 fun t43 h7 =>
    bothK (newv T.model_Model t43 h7) fun t44 h8 =>
    endK Try.prog [.tmp 2, .tmp 3] .ret [(2, t44), (3, (.int .i64 0))] h8) (endK Try.prog [.tmp 2, .tmp 3]))) (endK Try.prog [.tmp 2, .tmp 3])) l 0 H none rfl (Fr.refl H) (by omega) rfl
  rw [if_pos h] at hloop
  apply pure_of _ (d_model_Of _ H) rfl
  rotate_left 2
  · simp (disch := first | with_reducible rfl | assumption | omega | rfl | (simp only [go_sem]; first | done | omega)) only [go_sem, ↓reduceIte, reduceCtorEq, Nat.reduceEqDiff, Nat.reduceAdd, Nat.reduceSub, Nat.reduceMul, Nat.reduceDiv, Nat.reduceMod, Nat.reduceLeDiff, Nat.reduceLT, Nat.reduceBEq, Int.reduceEq, Int.reduceBEq, Int.reduceBNe, Int.reduceLT, Int.reduceLE, Int.reduceAdd, Int.reduceSub, Int.reduceNeg, Int.reduceToNat, Int.reducePow, Nat.reducePow, Int.reduceMul, Int.reduceDiv, ↓s_model_Of, hlen]
    refine hloop.trans ?_
    simp (disch := first | with_reducible rfl | assumption | omega | rfl | (simp only [go_sem]; first | done | omega)) only [go_sem, ↓reduceIte, reduceCtorEq, Nat.reduceEqDiff, Nat.reduceAdd, Nat.reduceSub, Nat.reduceMul, Nat.reduceDiv, Nat.reduceMod, Nat.reduceLeDiff, Nat.reduceLT, Nat.reduceBEq, Int.reduceEq, Int.reduceBEq, Int.reduceBNe, Int.reduceLT, Int.reduceLE, Int.reduceAdd, Int.reduceSub, Int.reduceNeg, Int.reduceToNat, Int.reducePow, Nat.reducePow, Int.reduceMul, Int.reduceDiv, hlen, decide_eq_true hgt]
    rfl
  · exact hs

theorem q_Of (l : List Pr) (v : Value) (H : AHeap) (hr : Rd EPr H v l) (h : ofErr none l = 0) (hf : l.length ≤ 20000) :
    ∃ b H', CC F.model_Of [v] H = some (.tuple #[.pointer (some ⟨b, 0, none⟩), .int .i64 0], H') ∧ Mdl H' b l ∧ Still H H' ∧ H.n ≤ b ∧ (∀ c, MB H' b c → H.n ≤ c) := by
  have hlen := hr.lenS
  have hgt : ¬ (20000 : Int) < (l.length : Int) := by omega
  obtain ⟨H1, hs, hloop⟩ := l_ofP l v H hr (by omega) (seqK (fun tT h2 => bareK (lenS (get tT 0)) h2 fun t39 h3 =>
    bareK (xbin Try.prog .gtr T.int (.tmp 39) (.const (.int .i64 20000)) t39 (.int .i64 20000)) h3 fun t40 h4 =>
    condL t40 (fun k2 => k2 .ret [(2, (.pointer none)), (3, (.int .i64 7))] h4) (fun k2 =>
    k2 .normal [(0, (get tT 0))] h4) (seqK (fun tT_1 h5 =>
    enterK CC F.slices_Clone_Pair [(get tT_1 0)] h5 fun t42 h6 =>
    bareK (bldS #[(.slice none 0 0)] [(0, 1)] [(0, t42)]) h6 fun t43 h7 =>
    bothK (newv T.model_Model t43 h7) fun t44 h8 =>
    endK Try.prog [.tmp 2, .tmp 3] .ret [(2, t44), (3, (.int .i64 0))] h8) (endK Try.prog [.tmp 2, .tmp 3]))) (endK Try.prog [.tmp 2, .tmp 3])) l 0 H none rfl (Fr.refl H) (by omega) rfl
  rw [if_pos h] at hloop
  obtain ⟨v5, H2, hcl, ho5, s2, hn5⟩ := q_clone_Pair l v H1 (hr.still hs) (by omega)
  have n1 : H.n ≤ H1.n := hs.n
  have n2 : H1.n ≤ H2.n := s2.n
  have s12 : Still H H2 := hs.still.then s2 fun _ _ h => h
  refine ⟨H2.n, H2.push (.cells [v5] T.model_Model true), (d_model_Of _ H (r := (.tuple #[.pointer (some ⟨H2.n, 0, none⟩), .int .i64 0], _)) ?_).trans (congrArg some (tidy_mem rfl)), ?_, s12.push _, by omega, ?_⟩
  · obtain ⟨a, n, c, hv5⟩ : ∃ a n c, v5 = .slice a n c := by
      rcases ho5 with ⟨_, h⟩ | ⟨_, a, h, _⟩ | ⟨b, o, c, xs, h, _⟩ <;> exact ⟨_, _, _, h⟩
    subst hv5
    simp (disch := first | with_reducible rfl | assumption | omega | rfl | (simp only [go_sem]; first | done | omega)) only [go_sem, ↓reduceIte, reduceCtorEq, Nat.reduceEqDiff, Nat.reduceAdd, Nat.reduceSub, Nat.reduceMul, Nat.reduceDiv, Nat.reduceMod, Nat.reduceLeDiff, Nat.reduceLT, Nat.reduceBEq, Int.reduceEq, Int.reduceBEq, Int.reduceBNe, Int.reduceLT, Int.reduceLE, Int.reduceAdd, Int.reduceSub, Int.reduceNeg, Int.reduceToNat, Int.reducePow, Nat.reducePow, Int.reduceMul, Int.reduceDiv, ↓s_model_Of, hlen]
    refine hloop.trans ?_
    simp (disch := first | with_reducible rfl | assumption | omega | rfl | (simp only [go_sem]; first | done | omega)) only [go_sem, ↓reduceIte, reduceCtorEq, Nat.reduceEqDiff, Nat.reduceAdd, Nat.reduceSub, Nat.reduceMul, Nat.reduceDiv, Nat.reduceMod, Nat.reduceLeDiff, Nat.reduceLT, Nat.reduceBEq, Int.reduceEq, Int.reduceBEq, Int.reduceBNe, Int.reduceLT, Int.reduceLE, Int.reduceAdd, Int.reduceSub, Int.reduceNeg, Int.reduceToNat, Int.reducePow, Nat.reducePow, Int.reduceMul, Int.reduceDiv, hlen, decide_eq_false hgt, enterK_eq hcl]
  · refine ⟨v5, push_f_eq rfl, by simp, ho5.still ((Fr.refl _).push _), fun h => by have := ho5.blk h; omega⟩
  · intro c h
    rcases h with h | ⟨u, hu, hb⟩
    · omega
    · rw [push_f_eq rfl] at hu
      cases hu
      have := hn5 c hb
      omega

end Go.Proofs.Ytmbppjilnnjdaaa

/-
  Sorted lists of pairs: where a key is.
  Conditions: none. By an AI agent.
-/
set_option maxRecDepth 10000
set_option linter.unusedSimpArgs false
set_option linter.unusedVariables false
namespace Go.Proofs.Ytmbppjilnnjdaaa
open Go Eng

/-- Sorted, each key once. -/
def Srt (l : List Pr) : Prop := l.Pairwise fun a b => cmpS a.key b.key < 0

/-- Where a key is, or would be. -/
def posP : List Pr → ByteArray → Nat
  | [], _ => 0
  | a :: l, key => if cmpS a.key key < 0 then posP l key + 1 else 0

theorem posP_le : ∀ (l : List Pr) (key : ByteArray), posP l key ≤ l.length
  | [], _ => Nat.le_refl _
  | a :: l, key => by
    rw [posP]
    have := posP_le l key
    split <;> simp <;> omega

theorem cmpS_le_lt {a b c : ByteArray} (h1 : ¬ cmpS a b < 0) (h2 : cmpS a c < 0) : cmpS b c < 0 := by
  by_cases h : cmpS a b = 0
  · rw [← cmpS_eq.1 h]; exact h2
  · have h3 : cmpS b a < 0 := by rw [cmpS_swap]; omega
    exact cmpS_trans h3 h2

theorem posP_pos : ∀ {l : List Pr} (_ : Srt l) (key : ByteArray), PosP l key (posP l key)
  | [], _, key => ⟨Nat.le_refl _, fun i h => absurd h (by simp), fun i h => absurd h (by simp)⟩
  | a :: l, hs, key => by
    obtain ⟨ha, hl⟩ := List.pairwise_cons.1 hs
    obtain ⟨h1, h2, h3⟩ := posP_pos hl key
    rw [posP]
    by_cases h : cmpS a.key key < 0
    · rw [if_pos h]
      refine ⟨by simp; omega, fun i hi hp => ?_, fun i hi hp => ?_⟩
      · cases i with
        | zero => exact h
        | succ i => exact h2 i (by simpa using hi) (by omega)
      · cases i with
        | zero => omega
        | succ i => exact h3 i (by simpa using hi) (by omega)
    · rw [if_neg h]
      refine ⟨by simp, fun i hi hp => by omega, fun i hi hp => ?_⟩
      cases i with
      | zero => exact h
      | succ i =>
        intro hc
        have hb := ha _ (List.getElem_mem (by simpa using hi : i < l.length))
        exact h (cmpS_trans hb hc)

/-- Is a key there? -/
def hasP (l : List Pr) (key : ByteArray) : Bool := isP l key (posP l key)

theorem isP_eq {l : List Pr} {key : ByteArray} {p : Nat} (h : isP l key p = true) : ∃ hp : p < l.length, l[p].key = key := by
  unfold isP at h
  cases hg : l[p]? with
  | none => rw [hg] at h; cases h
  | some a =>
    rw [hg] at h
    obtain ⟨hp, rfl⟩ := List.getElem?_eq_some_iff.1 hg
    exact ⟨hp, cmpS_eq.1 (by simpa using h)⟩

theorem mem_pos {l : List Pr} (hs : Srt l) {i : Nat} (hi : i < l.length) : posP l l[i].key = i := by
  obtain ⟨h1, h2, h3⟩ := posP_pos hs l[i].key
  rcases Nat.lt_trichotomy (posP l l[i].key) i with h | h | h
  · have hlt : posP l l[i].key < l.length := by omega
    have := List.pairwise_iff_getElem.1 hs _ _ hlt hi h
    exact absurd this (h3 _ hlt (Nat.le_refl _))
  · exact h
  · have := h2 i hi h
    rw [cmpS_self] at this
    omega

theorem isP_self {l : List Pr} (hs : Srt l) {i : Nat} (hi : i < l.length) : isP l l[i].key (posP l l[i].key) = true := by
  rw [mem_pos hs hi]
  unfold isP
  rw [List.getElem?_eq_getElem hi]
  simp [cmpS_self]

/-- What a search for an equal key finds: on a sorted list, the place. -/
def findP : List Pr → ByteArray → Nat → Int
  | [], _, _ => -1
  | a :: l, key, i => if bl a.key = bl key then i else findP l key (i + 1)

theorem findP_none : ∀ (l : List Pr) (key : ByteArray) (i : Nat), (∀ a ∈ l, ¬ a.key = key) → findP l key i = -1
  | [], _, _, _ => rfl
  | a :: l, key, i, h => by
    rw [findP, if_neg fun he => h a (by simp) (bl_inj he), findP_none l key (i + 1) fun b hb => h b (by simp [hb])]

theorem findP_some : ∀ (l : List Pr) (key : ByteArray) (i k : Nat) (hk : k < l.length), l[k].key = key → (∀ (j : Nat) (hj : j < l.length), j < k → ¬ l[j].key = key) → findP l key i = ((i + k : Nat) : Int)
  | [], _, _, k, hk, _, _ => absurd hk (by simp)
  | a :: l, key, i, 0, _, h, _ => by
    rw [findP, if_pos (by rw [← h]; rfl)]
    simp
  | a :: l, key, i, k + 1, hk, h, hn => by
    rw [findP, if_neg fun he => hn 0 (by simp) (by omega) (bl_inj he), findP_some l key (i + 1) k (by simpa using hk) h fun j hj hjk => hn (j + 1) (by simpa using hj) (by omega)]
    omega

theorem findP_eq {l : List Pr} (hs : Srt l) (key : ByteArray) : findP l key 0 = if isP l key (posP l key) = true then (posP l key : Int) else -1 := by
  by_cases h : isP l key (posP l key) = true
  · rw [if_pos h]
    obtain ⟨hp, he⟩ := isP_eq h
    have := findP_some l key 0 (posP l key) hp he fun j hj hjk hej => by
      have := mem_pos hs hj
      rw [hej] at this
      omega
    rw [this]; simp
  · rw [if_neg h]
    refine findP_none l key 0 fun a ha hak => h ?_
    obtain ⟨i, hi, rfl⟩ := List.getElem_of_mem ha
    rw [← hak]
    exact isP_self hs hi

/-! ### What stays sorted -/
theorem srt_set {l : List Pr} (hs : Srt l) {p : Nat} {a : Pr} (h : isP l a.key p = true) : Srt (l.set p a) := by
  obtain ⟨hp, he⟩ := isP_eq h
  refine List.pairwise_iff_getElem.2 fun i j hi hj hij => ?_
  have hk : ∀ (i : Nat) (hi : i < (l.set p a).length), (l.set p a)[i].key = (l[i]'(by simpa using hi)).key := by
    intro i hi
    rw [List.getElem_set]
    split
    · rename_i h'; subst h'; exact he.symm
    · rfl
  rw [hk i hi, hk j hj]
  exact List.pairwise_iff_getElem.1 hs _ _ _ _ hij

theorem srt_ins {l : List Pr} (hs : Srt l) {a : Pr} (h : isP l a.key (posP l a.key) = false) : Srt (l.take (posP l a.key) ++ a :: l.drop (posP l a.key)) := by
  obtain ⟨h1, h2, h3⟩ := posP_pos hs a.key
  generalize hp : posP l a.key = p at h h1 h2 h3
  unfold Srt
  rw [List.pairwise_append]
  refine ⟨hs.sublist (List.take_sublist _ _), ?_, ?_⟩
  · rw [List.pairwise_cons]
    refine ⟨fun b hb => ?_, hs.sublist (List.drop_sublist _ _)⟩
    obtain ⟨i, hi, rfl⟩ := List.getElem_of_mem hb
    rw [List.getElem_drop]
    have hi' : p + i < l.length := by simp at hi; omega
    have hge := h3 (p + i) hi' (by omega)
    have hpl : p < l.length := by omega
    have hne0 : ¬ cmpS l[p].key a.key = 0 := by
      unfold isP at h
      rw [List.getElem?_eq_getElem hpl] at h
      simpa using h
    rw [cmpS_swap]
    by_cases hi0 : i = 0
    · subst hi0
      have := h3 p hpl (Nat.le_refl _)
      simp only [Nat.add_zero]
      omega
    · have hlt := List.pairwise_iff_getElem.1 hs p (p + i) hpl hi' (by omega)
      have hpp := h3 p hpl (Nat.le_refl _)
      have : cmpS a.key l[p].key < 0 := by rw [cmpS_swap]; omega
      have := cmpS_trans this hlt
      rw [cmpS_swap] at this
      omega
  · intro b hb c hc
    obtain ⟨i, hi, rfl⟩ := List.getElem_of_mem hb
    rw [List.getElem_take]
    have hi' : i < p := by simp at hi; omega
    have hlt := h2 i (by omega) hi'
    rcases List.mem_cons.1 hc with rfl | hc
    · exact hlt
    · obtain ⟨j, hj, rfl⟩ := List.getElem_of_mem hc
      rw [List.getElem_drop]
      exact List.pairwise_iff_getElem.1 hs _ _ _ _ (by omega)

theorem srt_del {l : List Pr} (hs : Srt l) (p : Nat) : Srt (l.take p ++ l.drop (p + 1)) := by
  rw [← List.eraseIdx_eq_take_drop_succ]
  exact hs.sublist (List.eraseIdx_sublist _ _)

theorem srt_put {l : List Pr} (hs : Srt l) (a : Pr) : Srt (putP l a (posP l a.key)).2 := by
  unfold putP
  split
  · rename_i h; exact srt_set hs h
  · rename_i h
    split
    · exact hs
    · exact srt_ins hs (by simpa using h)
theorem len_put {l : List Pr} (hl : l.length ≤ 20000) (a : Pr) : (putP l a (posP l a.key)).2.length ≤ 20000 := by
  unfold putP
  split
  · simpa using hl
  · split
    · exact hl
    · simp; have := posP_le l a.key; omega
theorem srt_insert {l : List Pr} (hs : Srt l) (a : Pr) : Srt (insertP l a (posP l a.key)).2 := by
  unfold insertP
  split
  · exact hs
  · rename_i h
    split
    · exact hs
    · exact srt_ins hs (by simpa using h)
theorem len_insert {l : List Pr} (hl : l.length ≤ 20000) (a : Pr) : (insertP l a (posP l a.key)).2.length ≤ 20000 := by
  unfold insertP
  split
  · exact hl
  · split
    · exact hl
    · simp; have := posP_le l a.key; omega
theorem srt_swap {l : List Pr} (hs : Srt l) (key old new : ByteArray) : Srt (swapP l key old new (posP l key)).2 := by
  unfold swapP
  split
  · rename_i h
    split
    · exact srt_set (a := ⟨key, new⟩) hs h
    · exact hs
  · exact hs
theorem len_swap {l : List Pr} (hl : l.length ≤ 20000) (key old new : ByteArray) : (swapP l key old new (posP l key)).2.length ≤ 20000 := by
  unfold swapP
  split
  · split
    · simpa using hl
    · exact hl
  · exact hl

end Go.Proofs.Ytmbppjilnnjdaaa

/-
  Rows: appending where nothing may be appended; parts that are only read; one cell of a pair.
  Conditions: none. By an AI agent.
-/
set_option maxRecDepth 10000
set_option linter.unusedSimpArgs false
set_option linter.unusedVariables false
namespace Go.Proofs.Ytmbppjilnnjdaaa
open Go Eng

variable {α : Type} {E : Enc α} {H : AHeap} {v : Value} {l m : List α} {e : TypeId}

theorem Eng.Own.nil : Own E H e (.slice none 0 0) [] := .inl ⟨rfl, rfl⟩

theorem Eng.Own.appE (r : Own E H e v l) {sz bytes : Nat} (hsz : sz = E.w) (hb : (l.length + m.length) * bytes ≤ 140737488355328) (hn : l.length + m.length ≤ 140737488355328)
    {src : Option (Nat × List Value)} (hsrc : src = some (m.length, E.cells m)) :
    ∃ v' H', Eng.app e sz bytes v src H = some (v', H') ∧ Own E H' e v' (l ++ m) ∧ Fr (OnlyOf v) H H' ∧ (blockOf v' = blockOf v ∨ blockOf v' = some H.n) := by
  by_cases hm : m = []
  · subst hm hsrc
    refine ⟨v, H, ?_, by simpa using r, Fr.refl H, .inl rfl⟩
    rcases r with ⟨rfl, rfl⟩ | ⟨rfl, a, rfl, _, _⟩ | ⟨b, o, c, xs, rfl, _⟩ <;> rfl
  · obtain ⟨v', H', h1, h2, h3, h4, _⟩ := r.app hm hsz hb hn hsrc
    exact ⟨v', H', h1, h2, h3, h4⟩

/-- Appending to a row whose capacity is its length. -/
theorem Eng.Rd.appX {a : Option Addr} {n : Nat} (r : Rd E H (.slice a n (2 * n)) l) {sz bytes : Nat} (hsz : sz = E.w) (hb : (l.length + m.length) * bytes ≤ 140737488355328) (hn : l.length + m.length ≤ 140737488355328)
    {src : Option (Nat × List Value)} (hsrc : src = some (m.length, E.cells m)) (h0 : l ≠ []) :
    ∃ v' H', Eng.app e sz bytes (.slice a n (2 * n)) src H = some (v', H') ∧ Rd E H' v' (l ++ m) ∧ Still H H' ∧ (blockOf v' = a.map (·.block) ∨ blockOf v' = some H.n) := by
  subst hsz
  by_cases hm : m = []
  · subst hm hsrc
    refine ⟨_, H, rfl, by simpa using r, Fr.refl H, ?_⟩
    rcases r with h | ⟨h, _⟩ | ⟨b, o, c, hv, _⟩
    · exact absurd h.1 h0
    · exact absurd h h0
    · cases hv; exact .inl rfl
  · have hm0 : m.length ≠ 0 := fun h => hm (List.length_eq_zero_iff.1 h)
    rcases r with h | ⟨h, _⟩ | ⟨b, o, c, hv, hl, hbn, hc⟩
    · exact absurd h.1 h0
    · exact absurd h h0
    · cases hv
      refine ⟨.slice (some ⟨H.n, 0, none⟩) (l.length + m.length) (2 * (l.length + m.length) + 1), H.push (.cells (E.cells l ++ E.cells m) e true), ?_, ?_, (Fr.refl H).push _, .inr rfl⟩
      · have hold : oldOf E.w l.length H (some ⟨b, o, none⟩) = some (E.cells l) := by
          unfold oldOf
          rw [if_neg fun h => hl (List.length_eq_zero_iff.1 h)]
          simp only [cut_b, hc]
        have hbig : ¬ ((l.length + m.length) * bytes > 140737488355328 ∨ l.length + m.length > 140737488355328) := by omega
        have hroom : ¬ (l.length + m.length ≤ 2 * l.length / 2) := by omega
        have hone := E.cells_one m
        subst hsrc
        simp only [Eng.app, Option.bind_some, hm0, if_false, hbig, hroom, hone, Bool.true_eq_false, hold, show 2 * l.length % 2 = 0 by omega, if_true, Option.map_some]
      · refine .inr (.inr ⟨H.n, 0, _, by rw [List.length_append], by simp [hm], by simp, ?_⟩)
        rw [push_f_eq rfl, cutB_c (by simp [Nat.add_mul]), E.cells_append]
        rw [List.drop_zero, List.take_of_length_le (by simp [Nat.add_mul])]

/-- The first elements. -/
theorem Eng.Own.hi (r : Own E H e v l) {sz : Nat} (hsz : sz = E.w) {i : Nat} (hi : i ≤ l.length) {q : IntKind} : ∃ v', slS e sz v none (some (.int q (i : Int))) none H = some v' ∧ Rd E H v' (l.take i) := by
  subst hsz
  rcases r with ⟨rfl, rfl⟩ | ⟨rfl, ⟨b, o, s⟩, rfl, hs, hbb⟩ | ⟨b, o, c, xs, rfl, hl, hbn, hf, ho, hx⟩
  · simp only [List.length_nil, Nat.le_zero_eq] at hi
    subst hi
    exact ⟨.slice none 0 0, rfl, .inl ⟨by simp, rfl⟩⟩
  · simp only at hs
    subst hs
    simp only [List.length_nil, Nat.le_zero_eq] at hi
    subst hi
    exact ⟨.slice (some ⟨b, o, none⟩) 0 0, by simp [slS, lowOf, highOf, bnd], .inr (.inl ⟨by simp, _, _, rfl, rfl⟩)⟩
  · have hmul := Nat.mul_le_mul_right E.w hl
    have hmi := Nat.mul_le_mul_right E.w hi
    refine ⟨_, sl_hi hf (Nat.le_trans hi hl), ?_⟩
    have hlen : (l.take i).length = i := by simp; omega
    by_cases h0 : i = 0
    · subst h0; exact .inr (.inl ⟨by simp, _, _, rfl, rfl⟩)
    · refine .inr (.inr ⟨b, o, _, by rw [hlen], fun h => h0 (by rw [← hlen, h]; rfl), hbn, ?_⟩)
      rw [hlen, hf, cutB_c (by omega), ← E.cells_take, ← hx, List.take_take, Nat.min_eq_left hmi]

/-- The second cell of a pair. -/
theorem wr1_two {k k' : Blk} {o : Nat} {x y : ByteArray} {w : Value} (hc : cutB k o 2 = some [.string x, w]) (h : wrL k o [.string x, .string y] = some k') : wr1 k (o + 1) (.string y) = some k' := by
  unfold cutB at hc
  unfold wrL at h
  unfold wr1
  cases k with
  | cells xs e rw =>
    cases rw with
    | false => cases h
    | true =>
      simp only at hc h ⊢
      split at hc
      · rename_i hle
        rw [if_pos (by simpa using hle)] at h
        have hx : xs[o]? = some (.string x) := by
          have := congrArg (fun z => z[0]?) (Option.some.inj hc)
          simp only [List.getElem?_take, List.getElem?_drop] at this
          simpa using this
        rw [if_pos (by omega)]
        have he : xs.set o (.string x) = xs := by
          apply List.ext_getElem?
          intro j
          by_cases hj : j = o
          · subst hj; rw [List.getElem?_set_self (by omega), hx]
          · rw [List.getElem?_set_ne (by omega)]
        simp only [List.all_cons, List.all_nil, one_s, Bool.and_self, if_true, spl, he] at h
        rw [if_pos (one_s)]
        simpa using h
      · cases hc
  | _ => cases h

theorem Eng.Own.writeV {l : List Pr} (r : Own EPr H T.api_Pair v l) {i : Nat} (hi : i < l.length) (x : ByteArray) :
    ∃ b o H', ixS 2 v (.int .i64 (i : Int)) = some (.pointer (some ⟨b, o, none⟩)) ∧ setB H b (wr1 (H.f b) (o + 1) (.string x)) = some H' ∧ Own EPr H' T.api_Pair v (l.set i ⟨l[i].key, x⟩) ∧ blockOf v = some b ∧ b < H.n ∧
      H'.n = H.n ∧ Fr (fun c => c = b) H H' := by
  obtain ⟨b, o, H', h1, h2, h3, h4, h5, h6, h7, _⟩ := Own.write r hi ⟨l[i].key, x⟩
  obtain ⟨b2, o2, g1, g2, g3, _⟩ := r.rd.ix (q := .i64) hi
  have g1 : ixS 2 v (.int .i64 (i : Int)) = some (.pointer (some ⟨b2, o2, none⟩)) := g1
  rw [h1] at g1
  cases g1
  refine ⟨b, o, H', h1, ?_, h3, h4, h5, h6, h7⟩
  unfold setB at h2 ⊢
  obtain ⟨k', hk, rfl⟩ := Option.map_eq_some_iff.1 h2
  rw [wr1_two g3 hk]
  rfl

end Go.Proofs.Ytmbppjilnnjdaaa

/-
  Sorted lists of pairs: ranges; a part in the middle.
  Conditions: none. By an AI agent.
-/
set_option maxRecDepth 10000
set_option linter.unusedSimpArgs false
set_option linter.unusedVariables false
namespace Go.Proofs.Ytmbppjilnnjdaaa
open Go Eng

/-- Is a key in a range? -/
def inR (sf st : ByteArray) (a : Pr) : Bool := !decide (cmpS a.key sf < 0) && (decide (bl st = []) || decide (cmpS a.key st < 0))
/-- Where a range ends. -/
def endP (l : List Pr) (st : ByteArray) : Nat := if bl st = [] then l.length else posP l st

theorem filter_ge : ∀ {l : List Pr} (_ : Srt l) (k : ByteArray), l.filter (fun a => !decide (cmpS a.key k < 0)) = l.drop (posP l k)
  | [], _, _ => rfl
  | a :: l, hs, k => by
    obtain ⟨ha, hl⟩ := List.pairwise_cons.1 hs
    rw [posP]
    by_cases h : cmpS a.key k < 0
    · rw [if_pos h, List.filter_cons_of_neg (by simp [h]), List.drop_succ_cons]
      exact filter_ge hl k
    · rw [if_neg h, List.drop_zero, List.filter_eq_self]
      intro b hb
      rcases List.mem_cons.1 hb with rfl | hb
      · simp [h]
      · have := ha b hb
        simp only [Bool.not_eq_true', decide_eq_false_iff_not]
        exact fun hc => h (cmpS_trans this hc)
theorem filter_lt : ∀ {l : List Pr} (_ : Srt l) (k : ByteArray), l.filter (fun a => decide (cmpS a.key k < 0)) = l.take (posP l k)
  | [], _, _ => rfl
  | a :: l, hs, k => by
    obtain ⟨ha, hl⟩ := List.pairwise_cons.1 hs
    rw [posP]
    by_cases h : cmpS a.key k < 0
    · rw [if_pos h, List.filter_cons_of_pos (by simp [h]), List.take_succ_cons, filter_lt hl k]
    · rw [if_neg h, List.take_zero, List.filter_eq_nil_iff]
      intro b hb
      rcases List.mem_cons.1 hb with rfl | hb
      · simp [h]
      · have := ha b hb
        simp only [decide_eq_true_eq]
        exact fun hc => h (cmpS_trans this hc)
theorem posP_take : ∀ (l : List Pr) (k : ByteArray) (q : Nat), posP (l.take q) k = min (posP l k) q
  | [], k, q => by simp [posP]
  | a :: l, k, 0 => by simp [posP]
  | a :: l, k, q + 1 => by
    rw [List.take_succ_cons, posP, posP, posP_take l k q]
    split <;> omega

theorem filter_inR {l : List Pr} (hs : Srt l) (sf st : ByteArray) : l.filter (inR sf st) = (l.drop (posP l sf)).take (endP l st - posP l sf) := by
  unfold inR endP
  by_cases h : bl st = []
  · simp only [h, decide_true, Bool.true_or, Bool.and_true, if_true]
    rw [filter_ge hs sf, List.take_of_length_le (by simp)]
  · simp only [h, decide_false, Bool.false_or, if_false]
    rw [← List.filter_filter, filter_lt hs st, filter_ge (hs.sublist (List.take_sublist _ _)) sf, posP_take, ← List.drop_take]
    by_cases hle : posP l sf ≤ posP l st
    · rw [Nat.min_eq_left hle]
    · rw [Nat.min_eq_right (by omega), List.drop_eq_nil_of_le (by simp; omega), List.drop_eq_nil_of_le (by simp; omega)]

theorem rdLit (a : Pr) (H : AHeap) : Rd EPr (H.push (.cells [.string a.key, .string a.value] T.api_Pair true)) (.slice (some ⟨H.n, 0, none⟩) 1 2) [a] := by
  refine .inr (.inr ⟨H.n, 0, 2, rfl, by simp, by simp, ?_⟩)
  rw [push_f_eq rfl]
  rfl


/-- A part in the middle that is the function's own. -/
theorem Eng.Own.midO {α : Type} {E : Enc α} {H : AHeap} {e : TypeId} {v : Value} {l : List α} (r : Own E H e v l) {sz : Nat} (hsz : sz = E.w) {i j : Nat} (hi : i ≤ j) (hj : j ≤ l.length) {q q' : IntKind} :
    ∃ v', slS e sz v (some (.int q (i : Int))) (some (.int q' (j : Int))) none H = some v' ∧ Own E H e v' ((l.drop i).take (j - i)) ∧ blockOf v' = blockOf v := by
  subst hsz
  rcases r with ⟨rfl, rfl⟩ | ⟨rfl, ⟨b, o, s⟩, rfl, hs, hbb⟩ | ⟨b, o, c, xs, rfl, hl, hbn, hf, ho, hx⟩
  · simp only [List.length_nil, Nat.le_zero_eq] at hj
    subst hj
    simp only [Nat.le_zero_eq] at hi
    subst hi
    exact ⟨.slice none 0 0, rfl, .inl ⟨by simp, rfl⟩, rfl⟩
  · simp only at hs
    subst hs
    simp only [List.length_nil, Nat.le_zero_eq] at hj
    subst hj
    simp only [Nat.le_zero_eq] at hi
    subst hi
    exact ⟨.slice (some ⟨b, o, none⟩) 0 0, by simp [slS, lowOf, highOf, bnd], .inr (.inl ⟨by simp, _, rfl, rfl, hbb⟩), rfl⟩
  · have hmul := Nat.mul_le_mul_right E.w hl
    have hmj := Nat.mul_le_mul_right E.w hj
    have hmi := Nat.mul_le_mul_right E.w hi
    have hmc := Nat.mul_le_mul_right E.w (Nat.le_trans hj hl)
    refine ⟨_, sl_lohi hf hi (Nat.le_trans hj hl), .inr (.inr ⟨b, o + i * E.w, c - i, xs, ?_, ?_, hbn, hf, ?_, ?_⟩), rfl⟩
    · rw [show ((l.drop i).take (j - i)).length = j - i by simp; omega]
    · simp; omega
    · rw [Nat.sub_mul]; omega
    · have hlen : ((l.drop i).take (j - i)).length = j - i := by simp; omega
      have hsub : (j - i) * E.w = j * E.w - i * E.w := Nat.sub_mul _ _ _
      rw [hlen, ← E.cells_take, ← E.cells_drop, ← hx, List.drop_take, List.take_take, List.drop_drop, Nat.min_eq_left (by omega)]

end Go.Proofs.Ytmbppjilnnjdaaa

/-
  Chapter 42: the cursor's methods.
  Conditions: none. By an AI agent.
-/
set_option maxRecDepth 10000
set_option linter.unusedSimpArgs false
set_option linter.unusedVariables false
namespace Go.Proofs.Ytmbppjilnnjdaaa
open Go Eng

@[go_sem] theorem cp_nil {ox oy : Operand} : xbin Try.prog .eql T.p_cursor_Cursor ox oy (.pointer none) (.pointer none) = some (.bool true) := by kernel_rfl
@[go_sem] theorem cp_some {ox oy : Operand} {a : Addr} : xbin Try.prog .eql T.p_cursor_Cursor ox oy (.pointer (some a)) (.pointer none) = some (.bool false) := by kernel_rfl

/-! ### sort.Search -/
theorem l_Search (fv : Value) (n q : Nat) (p : Nat → Bool) (H : AHeap) (hn : n < 4611686018427387904) (hq : q ≤ n) (h1 : ∀ j, j < q → p j = false) (h2 : ∀ j, j < n → q ≤ j → p j = true)
    (hf : ∀ (j : Nat) (k : Value → AHeap → Res), j < n → callK Try.prog CC fv [.int .i64 (j : Int)] H k = k (.bool (p j)) H) : ∀ (d i j : Nat), j - i = d → i ≤ q → q ≤ j → j ≤ n → ∀ K : K,
    l_sort_Search_0 fv (.int .i64 i) (.int .i64 j) H (blkK [5] 0 K) = K .normal [(5, .int .i64 q)] H := by
  intro d
  induction d using Nat.strongRecOn with
  | ind d ih =>
    intro i j hd hi hj hjn K
    rw [r_sort_Search_0]
    by_cases hlt : i < j
    · have hlt' : (i : Int) < (j : Int) := by omega
      have hm : ((i : Int) + (j : Int)) / 2 = (((i + j) / 2 : Nat) : Int) := by omega
      generalize hh : (i + j) / 2 = m at hm
      have hm1 : i ≤ m := by omega
      have hm2 : m < j := by omega
      by_cases hp : m < q
      · have hpf := h1 m hp
        have ih := ih (j - (m + 1)) (by omega) (m + 1) j rfl (by omega) hj hjn K
        rw [Int.natCast_add] at ih
        simp (disch := first | with_reducible rfl | assumption | omega | rfl | (simp only [go_sem]; first | done | omega)) only [go_sem, ↓reduceIte, reduceCtorEq, Nat.reduceEqDiff, Nat.reduceAdd, Nat.reduceSub, Nat.reduceMul, Nat.reduceDiv, Nat.reduceMod, Nat.reduceLeDiff, Nat.reduceLT, Nat.reduceBEq, Int.reduceEq, Int.reduceBEq, Int.reduceBNe, Int.reduceLT, Int.reduceLE, Int.reduceAdd, Int.reduceSub, Int.reduceNeg, Int.reduceToNat, Int.reducePow, Nat.reducePow, Int.reduceMul, Int.reduceDiv, ↓s_sort_Search_b0, hlt', hm, hf m _ (by omega), hpf]
        exact ih
      · have hpf := h2 m (by omega) (by omega)
        have ih := ih (m - i) (by omega) i m rfl hi (by omega) (by omega) K
        simp (disch := first | with_reducible rfl | assumption | omega | rfl | (simp only [go_sem]; first | done | omega)) only [go_sem, ↓reduceIte, reduceCtorEq, Nat.reduceEqDiff, Nat.reduceAdd, Nat.reduceSub, Nat.reduceMul, Nat.reduceDiv, Nat.reduceMod, Nat.reduceLeDiff, Nat.reduceLT, Nat.reduceBEq, Int.reduceEq, Int.reduceBEq, Int.reduceBNe, Int.reduceLT, Int.reduceLE, Int.reduceAdd, Int.reduceSub, Int.reduceNeg, Int.reduceToNat, Int.reducePow, Nat.reducePow, Int.reduceMul, Int.reduceDiv, ↓s_sort_Search_b0, hlt', hm, hf m _ (by omega), hpf]
        exact ih
    · have hlt' : ¬ (i : Int) < (j : Int) := by omega
      have e : i = q := by omega
      subst e
      simp (disch := first | with_reducible rfl | assumption | omega | rfl | (simp only [go_sem]; first | done | omega)) only [go_sem, ↓reduceIte, reduceCtorEq, Nat.reduceEqDiff, Nat.reduceAdd, Nat.reduceSub, Nat.reduceMul, Nat.reduceDiv, Nat.reduceMod, Nat.reduceLeDiff, Nat.reduceLT, Nat.reduceBEq, Int.reduceEq, Int.reduceBEq, Int.reduceBNe, Int.reduceLT, Int.reduceLE, Int.reduceAdd, Int.reduceSub, Int.reduceNeg, Int.reduceToNat, Int.reducePow, Nat.reducePow, Int.reduceMul, Int.reduceDiv, ↓s_sort_Search_b0, hlt']

theorem q_Search (fv : Value) (n q : Nat) (p : Nat → Bool) (H : AHeap) (hn : n < 4611686018427387904) (hq : q ≤ n) (h1 : ∀ j, j < q → p j = false) (h2 : ∀ j, j < n → q ≤ j → p j = true)
    (hf : ∀ (j : Nat) (k : Value → AHeap → Res), j < n → callK Try.prog CC fv [.int .i64 (j : Int)] H k = k (.bool (p j)) H) :
    CC F.sort_Search [.int .i64 n, fv] H = some (.int .i64 q, H) := by
  have hl := l_Search fv n q p H hn hq h1 h2 hf (n - 0) 0 n rfl (by omega) hq (Nat.le_refl _)
  apply pure_of _ (d_sort_Search _ _ H) rfl
  rotate_left 2
  · simp (disch := first | with_reducible rfl | assumption | omega | rfl | (simp only [go_sem]; first | done | omega)) only [go_sem, ↓reduceIte, reduceCtorEq, Nat.reduceEqDiff, Nat.reduceAdd, Nat.reduceSub, Nat.reduceMul, Nat.reduceDiv, Nat.reduceMod, Nat.reduceLeDiff, Nat.reduceLT, Nat.reduceBEq, Int.reduceEq, Int.reduceBEq, Int.reduceBNe, Int.reduceLT, Int.reduceLE, Int.reduceAdd, Int.reduceSub, Int.reduceNeg, Int.reduceToNat, Int.reducePow, Nat.reducePow, Int.reduceMul, Int.reduceDiv, ↓s_sort_Search]
    refine (hl _).trans ?_
    simp (disch := first | with_reducible rfl | assumption | omega | rfl | (simp only [go_sem]; first | done | omega)) only [go_sem, ↓reduceIte, reduceCtorEq, Nat.reduceEqDiff, Nat.reduceAdd, Nat.reduceSub, Nat.reduceMul, Nat.reduceDiv, Nat.reduceMod, Nat.reduceLeDiff, Nat.reduceLT, Nat.reduceBEq, Int.reduceEq, Int.reduceBEq, Int.reduceBNe, Int.reduceLT, Int.reduceLE, Int.reduceAdd, Int.reduceSub, Int.reduceNeg, Int.reduceToNat, Int.reducePow, Nat.reducePow, Int.reduceMul, Int.reduceDiv]
    rfl
  · (repeat (first | exact Fr.refl _ | refine Fr.push ?_ _ | refine Fr.set ?_ _ _ (by intro h; first | omega | (simp only [go_sem] at h; omega))))

end Go.Proofs.Ytmbppjilnnjdaaa

/-
  Chapter 42: the cursor's methods, part 2.
  Conditions: none. By an AI agent.
-/
set_option maxRecDepth 10000
set_option linter.unusedSimpArgs false
set_option linter.unusedVariables false
namespace Go.Proofs.Ytmbppjilnnjdaaa
open Go Eng

/-! ### Where a search for a greater key ends -/
def posG : List Pr → ByteArray → Nat
  | [], _ => 0
  | a :: l, key => if cmpS a.key key ≤ 0 then posG l key + 1 else 0
theorem posG_le : ∀ (l : List Pr) (key : ByteArray), posG l key ≤ l.length
  | [], _ => Nat.le_refl _
  | a :: l, key => by
    rw [posG]
    have := posG_le l key
    split <;> simp <;> omega
theorem cmpS_lt_le {a b c : ByteArray} (h1 : cmpS a b < 0) (h2 : cmpS b c ≤ 0) : cmpS a c < 0 := by
  by_cases h : cmpS b c = 0
  · rw [← cmpS_eq.1 h]; exact h1
  · exact cmpS_trans h1 (by omega)
theorem posG_pos : ∀ {l : List Pr} (_ : Srt l) (key : ByteArray), (∀ (i : Nat) (h : i < l.length), i < posG l key → cmpS l[i].key key ≤ 0) ∧ (∀ (i : Nat) (h : i < l.length), posG l key ≤ i → ¬ cmpS l[i].key key ≤ 0)
  | [], _, key => ⟨fun i h => absurd h (by simp), fun i h => absurd h (by simp)⟩
  | a :: l, hs, key => by
    obtain ⟨ha, hl⟩ := List.pairwise_cons.1 hs
    obtain ⟨h2, h3⟩ := posG_pos hl key
    rw [posG]
    by_cases h : cmpS a.key key ≤ 0
    · rw [if_pos h]
      refine ⟨fun i hi hp => ?_, fun i hi hp => ?_⟩
      · cases i with
        | zero => exact h
        | succ i => exact h2 i (by simpa using hi) (by omega)
      · cases i with
        | zero => omega
        | succ i => exact h3 i (by simpa using hi) (by omega)
    · rw [if_neg h]
      refine ⟨fun i hi hp => by omega, fun i hi hp => ?_⟩
      cases i with
      | zero => exact h
      | succ i =>
        intro hc
        have hb := ha _ (List.getElem_mem (by simpa using hi : i < l.length))
        have := cmpS_lt_le hb hc
        omega
theorem filter_gt : ∀ {l : List Pr} (_ : Srt l) (k : ByteArray), l.filter (fun a => !decide (cmpS a.key k ≤ 0)) = l.drop (posG l k)
  | [], _, _ => rfl
  | a :: l, hs, k => by
    obtain ⟨ha, hl⟩ := List.pairwise_cons.1 hs
    rw [posG]
    by_cases h : cmpS a.key k ≤ 0
    · rw [if_pos h, List.filter_cons_of_neg (by simp [h]), List.drop_succ_cons]
      exact filter_gt hl k
    · rw [if_neg h, List.drop_zero, List.filter_eq_self]
      intro b hb
      rcases List.mem_cons.1 hb with rfl | hb
      · simp [h]
      · have := ha b hb
        simp only [Bool.not_eq_true', decide_eq_false_iff_not]
        exact fun hc => h (by have := cmpS_lt_le this hc; omega)

/-! ### The span -/
theorem q_pairs_1 (l : List Pr) (v : Value) (sf st : ByteArray) (a s j : Nat) (H : AHeap) (ha : H.f a = .cells [v] T.sl_api_Pair true) (hs : H.f s = .cells [.string sf, .string st] T.cursor_span true) (hr : Rd EPr H v l) (hj : j < l.length) :
    CC F.cursor_span_pairs_1 [.int .i64 (j : Int), .pointer (some ⟨a, 0, none⟩), .pointer (some ⟨s, 0, none⟩)] H = some (.bool (!decide (cmpS l[j].key sf < 0)), H) := by
  obtain ⟨b1, o1, hix, _, hc, _⟩ := hr.ix (q := .i64) hj
  have hix : ixS 2 v (.int .i64 j) = some (.pointer (some ⟨b1, o1, none⟩)) := hix
  have hck : cellB (H.f b1) o1 = some (.string l[j].key) := cutB_cell hc (i := 0) (by decide)
  apply pure_of _ (d_cursor_span_pairs_1 _ _ _ H) rfl
  rotate_left 2
  · simp (disch := first | with_reducible rfl | assumption | omega | rfl | (simp only [go_sem]; first | done | omega)) only [go_sem, ↓reduceIte, reduceCtorEq, Nat.reduceEqDiff, Nat.reduceAdd, Nat.reduceSub, Nat.reduceMul, Nat.reduceDiv, Nat.reduceMod, Nat.reduceLeDiff, Nat.reduceLT, Nat.reduceBEq, Int.reduceEq, Int.reduceBEq, Int.reduceBNe, Int.reduceLT, Int.reduceLE, Int.reduceAdd, Int.reduceSub, Int.reduceNeg, Int.reduceToNat, Int.reducePow, Nat.reducePow, Int.reduceMul, Int.reduceDiv, ↓s_cursor_span_pairs_1, ha, hs, hix, hck, less_cmpS]
    rfl
  · (repeat (first | exact Fr.refl _ | refine Fr.push ?_ _ | refine Fr.set ?_ _ _ (by intro h; first | omega | (simp only [go_sem] at h; omega))))
theorem q_pairs_2 (l : List Pr) (v : Value) (sf st : ByteArray) (a s j : Nat) (H : AHeap) (ha : H.f a = .cells [v] T.sl_api_Pair true) (hs : H.f s = .cells [.string sf, .string st] T.cursor_span true) (hr : Rd EPr H v l) (hj : j < l.length) :
    CC F.cursor_span_pairs_2 [.int .i64 (j : Int), .pointer (some ⟨s, 0, none⟩), .pointer (some ⟨a, 0, none⟩)] H = some (.bool (!decide (bl st = []) && !decide (cmpS l[j].key st < 0)), H) := by
  obtain ⟨b1, o1, hix, _, hc, _⟩ := hr.ix (q := .i64) hj
  have hix : ixS 2 v (.int .i64 j) = some (.pointer (some ⟨b1, o1, none⟩)) := hix
  have hck : cellB (H.f b1) o1 = some (.string l[j].key) := cutB_cell hc (i := 0) (by decide)
  by_cases h : bl st = []
  · rw [decide_eq_true h]
    apply pure_of _ (d_cursor_span_pairs_2 _ _ _ H) rfl
    rotate_left 2
    · simp (disch := first | with_reducible rfl | assumption | omega | rfl | (simp only [go_sem]; first | done | omega)) only [go_sem, ↓reduceIte, reduceCtorEq, Nat.reduceEqDiff, Nat.reduceAdd, Nat.reduceSub, Nat.reduceMul, Nat.reduceDiv, Nat.reduceMod, Nat.reduceLeDiff, Nat.reduceLT, Nat.reduceBEq, Int.reduceEq, Int.reduceBEq, Int.reduceBNe, Int.reduceLT, Int.reduceLE, Int.reduceAdd, Int.reduceSub, Int.reduceNeg, Int.reduceToNat, Int.reducePow, Nat.reducePow, Int.reduceMul, Int.reduceDiv, ↓s_cursor_span_pairs_2, ha, hs, bl_mk, decide_eq_true h]
      rfl
    · (repeat (first | exact Fr.refl _ | refine Fr.push ?_ _ | refine Fr.set ?_ _ _ (by intro h; first | omega | (simp only [go_sem] at h; omega))))
  · rw [decide_eq_false h]
    apply pure_of _ (d_cursor_span_pairs_2 _ _ _ H) rfl
    rotate_left 2
    · simp (disch := first | with_reducible rfl | assumption | omega | rfl | (simp only [go_sem]; first | done | omega)) only [go_sem, ↓reduceIte, reduceCtorEq, Nat.reduceEqDiff, Nat.reduceAdd, Nat.reduceSub, Nat.reduceMul, Nat.reduceDiv, Nat.reduceMod, Nat.reduceLeDiff, Nat.reduceLT, Nat.reduceBEq, Int.reduceEq, Int.reduceBEq, Int.reduceBNe, Int.reduceLT, Int.reduceLE, Int.reduceAdd, Int.reduceSub, Int.reduceNeg, Int.reduceToNat, Int.reducePow, Nat.reducePow, Int.reduceMul, Int.reduceDiv, ↓s_cursor_span_pairs_2, ha, hs, bl_mk, decide_eq_false h, hix, hck, less_cmpS]
      rfl
    · (repeat (first | exact Fr.refl _ | refine Fr.push ?_ _ | refine Fr.set ?_ _ _ (by intro h; first | omega | (simp only [go_sem] at h; omega))))

theorem q_span_pairs (b : Nat) (l : List Pr) (sf st : ByteArray) (H : AHeap) (r : Mdl H b l) (hs : Srt l) (hl : l.length ≤ 20000) :
    ∃ v' H', CC F.cursor_span_pairs [.agg #[.string sf, .string st], .pointer (some ⟨b, 0, none⟩)] H = some (v', H') ∧ Own EPr H' T.api_Pair v' (l.filter (inR sf st)) ∧ Still H H' ∧ New H v' := by
  generalize hH1 : H.push (.cells [.string sf, .string st] T.cursor_span true) = H1
  have s1 : Still H H1 := by rw [← hH1]; exact (Fr.refl H).push _
  have n1 : H1.n = H.n + 1 := by rw [← hH1]; rfl
  have f1 : H1.f H.n = .cells [.string sf, .string st] T.cursor_span true := by rw [← hH1]; exact push_f_eq rfl
  obtain ⟨v, H2, hp, ho, s2, hn⟩ := q_Pairs b l H1 (r.still s1) (by omega)
  have n2 : H1.n ≤ H2.n := s2.n
  have f2 : H2.f H.n = .cells [.string sf, .string st] T.cursor_span true := by rw [s2.f (by omega) (fun h => h), f1]
  have hone : one v = true := ho.cell
  generalize hH3 : (H2.push (.cells [.slice none 0 0] T.sl_api_Pair true)).set H2.n (.cells [v] T.sl_api_Pair true) = H3
  have s3 : Still H2 H3 := by rw [← hH3]; exact Fr.set ((Fr.refl H2).push _) _ _ (fun h => by omega)
  have f3 : H3.f H2.n = .cells [v] T.sl_api_Pair true := by rw [← hH3]; exact set_f_eq
  have f31 : H3.f H.n = .cells [.string sf, .string st] T.cursor_span true := by rw [s3.f (by omega) (fun h => h), f2]
  have ho3 := ho.still s3
  have hlen := ho3.rd.lenS
  obtain ⟨_, p1, p2⟩ := posP_pos hs sf
  have hpl := posP_le l sf
  have hq1 := q_Search (.func (.func F.cursor_span_pairs_1) #[] #[.pointer (some ⟨H2.n, 0, none⟩), .pointer (some ⟨H.n, 0, none⟩)]) l.length (posP l sf) (fun j => if h : j < l.length then !decide (cmpS l[j].key sf < 0) else true) H3 (by omega) hpl
    (fun j hj => by rw [dif_pos (by omega), decide_eq_true (p1 j (by omega) hj)]; rfl) (fun j hj hp => by rw [dif_pos hj, decide_eq_false (p2 j hj hp)]; rfl)
    (fun j k hj => by rw [c_cursor_span_pairs_1, dif_pos hj]; exact enterK_eq (q_pairs_1 l v sf st H2.n H.n j H3 f3 f31 ho3.rd hj))
  have hel : endP l st ≤ l.length := by unfold endP; split; exact Nat.le_refl _; exact posP_le l st
  have hq2 := q_Search (.func (.func F.cursor_span_pairs_2) #[] #[.pointer (some ⟨H.n, 0, none⟩), .pointer (some ⟨H2.n, 0, none⟩)]) l.length (endP l st) (fun j => if h : j < l.length then !decide (bl st = []) && !decide (cmpS l[j].key st < 0) else true) H3 (by omega) hel
    (fun j hj => by
      have hjl : j < l.length := by omega
      rw [dif_pos hjl]
      unfold endP at hj
      by_cases h : bl st = []
      · rw [decide_eq_true h]; rfl
      · rw [if_neg h] at hj
        rw [decide_eq_true ((posP_pos hs st).2.1 j hjl hj)]
        simp)
    (fun j hj hp => by
      rw [dif_pos hj]
      unfold endP at hp
      by_cases h : bl st = []
      · rw [if_pos h] at hp; omega
      · rw [if_neg h] at hp
        rw [decide_eq_false ((posP_pos hs st).2.2 j hj hp), decide_eq_false h]
        rfl)
    (fun j k hj => by rw [c_cursor_span_pairs_2, dif_pos hj]; exact enterK_eq (q_pairs_2 l v sf st H2.n H.n j H3 f3 f31 ho3.rd hj))
  have hm : max (posP l sf : Int) (endP l st : Int) = ((max (posP l sf) (endP l st) : Nat) : Int) := by omega
  obtain ⟨v', hsl, ho', hb'⟩ := ho3.midO (sz := 2) rfl (i := posP l sf) (j := max (posP l sf) (endP l st)) (by omega) (by omega) (q := .i64) (q' := .i64)
  have e : (l.drop (posP l sf)).take (max (posP l sf) (endP l st) - posP l sf) = l.filter (inR sf st) := by
    rw [filter_inR hs, show max (posP l sf) (endP l st) - posP l sf = endP l st - posP l sf by omega]
  rw [e] at ho'
  have st3 : Still H H3 := ((s1.then s2 fun _ _ h => h).still.then s3 fun _ _ h => h)
  obtain ⟨H'', h⟩ := own_tidied ho' st3 (fun c hc => by rw [hb'] at hc; have := hn c hc; omega) (d_cursor_span_pairs (.agg #[.string sf, .string st]) (.pointer (some ⟨b, 0, none⟩)) H (r := (v', H3)) (by
    simp (disch := first | with_reducible rfl | assumption | omega | rfl | (simp only [go_sem]; first | done | omega)) only [go_sem, ↓reduceIte, reduceCtorEq, Nat.reduceEqDiff, Nat.reduceAdd, Nat.reduceSub, Nat.reduceMul, Nat.reduceDiv, Nat.reduceMod, Nat.reduceLeDiff, Nat.reduceLT, Nat.reduceBEq, Int.reduceEq, Int.reduceBEq, Int.reduceBNe, Int.reduceLT, Int.reduceLE, Int.reduceAdd, Int.reduceSub, Int.reduceNeg, Int.reduceToNat, Int.reducePow, Nat.reducePow, Int.reduceMul, Int.reduceDiv, ↓s_cursor_span_pairs, hH1, enterK_eq hp, hH3, f3, hlen, enterK_eq hq1, enterK_eq hq2, hm, hsl]))
  exact ⟨v', H'', h⟩

/-! ### The cursor -/
def Cur (H : AHeap) (b : Nat) (sf st : ByteArray) (side : Int) (key : ByteArray) : Prop := H.f b = .cells [.string sf, .string st, .int .i64 side, .string key] T.cursor_Cursor true ∧ b < H.n
theorem Cur.still {H H' : AHeap} {b : Nat} {sf st key : ByteArray} {side : Int} (c : Cur H b sf st side key) (s : Still H H') : Cur H' b sf st side key := ⟨by rw [s.f c.2 (fun h => h), c.1], Nat.lt_of_lt_of_le c.2 s.n⟩

theorem q_zero (b : Nat) (sf st key : ByteArray) (side : Int) (H : AHeap) (c : Cur H b sf st side key) (hs : side ≠ 0) : CC F.cursor_Cursor_zero [.pointer (some ⟨b, 0, none⟩)] H = some (.bool false, H) := by
  have h1 := c.1
  apply pure_of _ (d_cursor_Cursor_zero _ H) rfl
  rotate_left 2
  · simp (disch := first | with_reducible rfl | assumption | omega | rfl | (simp only [go_sem]; first | done | omega)) only [go_sem, ↓reduceIte, reduceCtorEq, Nat.reduceEqDiff, Nat.reduceAdd, Nat.reduceSub, Nat.reduceMul, Nat.reduceDiv, Nat.reduceMod, Nat.reduceLeDiff, Nat.reduceLT, Nat.reduceBEq, Int.reduceEq, Int.reduceBEq, Int.reduceBNe, Int.reduceLT, Int.reduceLE, Int.reduceAdd, Int.reduceSub, Int.reduceNeg, Int.reduceToNat, Int.reducePow, Nat.reducePow, Int.reduceMul, Int.reduceDiv, ↓s_cursor_Cursor_zero, cp_some, h1, decide_eq_false hs]
    rfl
  · (repeat (first | exact Fr.refl _ | refine Fr.push ?_ _ | refine Fr.set ?_ _ _ (by intro h; first | omega | (simp only [go_sem] at h; omega))))
theorem q_At (b : Nat) (sf st key : ByteArray) (side : Int) (H : AHeap) (c : Cur H b sf st side key) (hs : side ≠ 0) : CC F.cursor_Cursor_At [.pointer (some ⟨b, 0, none⟩)] H = some (.string key, H) := by
  have h1 := c.1
  have h0 := q_zero b sf st key side H c hs
  apply pure_of _ (d_cursor_Cursor_At _ H) rfl
  rotate_left 2
  · simp (disch := first | with_reducible rfl | assumption | omega | rfl | (simp only [go_sem]; first | done | omega)) only [go_sem, ↓reduceIte, reduceCtorEq, Nat.reduceEqDiff, Nat.reduceAdd, Nat.reduceSub, Nat.reduceMul, Nat.reduceDiv, Nat.reduceMod, Nat.reduceLeDiff, Nat.reduceLT, Nat.reduceBEq, Int.reduceEq, Int.reduceBEq, Int.reduceBNe, Int.reduceLT, Int.reduceLE, Int.reduceAdd, Int.reduceSub, Int.reduceNeg, Int.reduceToNat, Int.reducePow, Nat.reducePow, Int.reduceMul, Int.reduceDiv, ↓s_cursor_Cursor_At, enterK_eq h0, h1]
    rfl
  · (repeat (first | exact Fr.refl _ | refine Fr.push ?_ _ | refine Fr.set ?_ _ _ (by intro h; first | omega | (simp only [go_sem] at h; omega))))
theorem q_Before (b : Nat) (sf st key : ByteArray) (side : Int) (H : AHeap) (c : Cur H b sf st side key) (hs : side ≠ 0) : CC F.cursor_Cursor_Before [.pointer (some ⟨b, 0, none⟩)] H = some (.bool (decide (side = 1)), H) := by
  have h1 := c.1
  have h0 := q_zero b sf st key side H c hs
  apply pure_of _ (d_cursor_Cursor_Before _ H) rfl
  rotate_left 2
  · simp (disch := first | with_reducible rfl | assumption | omega | rfl | (simp only [go_sem]; first | done | omega)) only [go_sem, ↓reduceIte, reduceCtorEq, Nat.reduceEqDiff, Nat.reduceAdd, Nat.reduceSub, Nat.reduceMul, Nat.reduceDiv, Nat.reduceMod, Nat.reduceLeDiff, Nat.reduceLT, Nat.reduceBEq, Int.reduceEq, Int.reduceBEq, Int.reduceBNe, Int.reduceLT, Int.reduceLE, Int.reduceAdd, Int.reduceSub, Int.reduceNeg, Int.reduceToNat, Int.reducePow, Nat.reducePow, Int.reduceMul, Int.reduceDiv, ↓s_cursor_Cursor_Before, enterK_eq h0, h1]
    rfl
  · (repeat (first | exact Fr.refl _ | refine Fr.push ?_ _ | refine Fr.set ?_ _ _ (by intro h; first | omega | (simp only [go_sem] at h; omega))))
theorem q_Behind (b : Nat) (sf st key : ByteArray) (side : Int) (H : AHeap) (c : Cur H b sf st side key) (hs : side ≠ 0) : CC F.cursor_Cursor_Behind [.pointer (some ⟨b, 0, none⟩)] H = some (.bool (decide (side = 3)), H) := by
  have h1 := c.1
  have h0 := q_zero b sf st key side H c hs
  apply pure_of _ (d_cursor_Cursor_Behind _ H) rfl
  rotate_left 2
  · simp (disch := first | with_reducible rfl | assumption | omega | rfl | (simp only [go_sem]; first | done | omega)) only [go_sem, ↓reduceIte, reduceCtorEq, Nat.reduceEqDiff, Nat.reduceAdd, Nat.reduceSub, Nat.reduceMul, Nat.reduceDiv, Nat.reduceMod, Nat.reduceLeDiff, Nat.reduceLT, Nat.reduceBEq, Int.reduceEq, Int.reduceBEq, Int.reduceBNe, Int.reduceLT, Int.reduceLE, Int.reduceAdd, Int.reduceSub, Int.reduceNeg, Int.reduceToNat, Int.reducePow, Nat.reducePow, Int.reduceMul, Int.reduceDiv, ↓s_cursor_Cursor_Behind, enterK_eq h0, h1]
    rfl
  · (repeat (first | exact Fr.refl _ | refine Fr.push ?_ _ | refine Fr.set ?_ _ _ (by intro h; first | omega | (simp only [go_sem] at h; omega))))

end Go.Proofs.Ytmbppjilnnjdaaa

/-
  Chapter 42: the cursor's methods, part 3.
  Conditions: none. By an AI agent.
-/
set_option maxRecDepth 10000
set_option linter.unusedSimpArgs false
set_option linter.unusedVariables false
namespace Go.Proofs.Ytmbppjilnnjdaaa
open Go Eng

/-- The index to which a cursor goes forward. -/
def fwd (l : List Pr) (side : Int) (key : ByteArray) : Nat := if side = 1 then 0 else if side = 3 then l.length else posG l key

theorem q_forward_1 (l : List Pr) (v : Value) (b : Nat) (sf st key : ByteArray) (side : Int) (a s j : Nat) (H : AHeap) (ha : H.f a = .cells [v] T.sl_api_Pair true) (hs : H.f s = .cells [.pointer (some ⟨b, 0, none⟩)] T.p_cursor_Cursor true) (c : Cur H b sf st side key) (hr : Rd EPr H v l) (hj : j < l.length) :
    CC F.cursor_Cursor_forward_1 [.int .i64 (j : Int), .pointer (some ⟨a, 0, none⟩), .pointer (some ⟨s, 0, none⟩)] H = some (.bool (!decide (cmpS l[j].key key ≤ 0)), H) := by
  obtain ⟨b1, o1, hix, _, hc, _⟩ := hr.ix (q := .i64) hj
  have hix : ixS 2 v (.int .i64 j) = some (.pointer (some ⟨b1, o1, none⟩)) := hix
  have hck : cellB (H.f b1) o1 = some (.string l[j].key) := cutB_cell hc (i := 0) (by decide)
  have h1 := c.1
  apply pure_of _ (d_cursor_Cursor_forward_1 _ _ _ H) rfl
  rotate_left 2
  · simp (disch := first | with_reducible rfl | assumption | omega | rfl | (simp only [go_sem]; first | done | omega)) only [go_sem, ↓reduceIte, reduceCtorEq, Nat.reduceEqDiff, Nat.reduceAdd, Nat.reduceSub, Nat.reduceMul, Nat.reduceDiv, Nat.reduceMod, Nat.reduceLeDiff, Nat.reduceLT, Nat.reduceBEq, Int.reduceEq, Int.reduceBEq, Int.reduceBNe, Int.reduceLT, Int.reduceLE, Int.reduceAdd, Int.reduceSub, Int.reduceNeg, Int.reduceToNat, Int.reducePow, Nat.reducePow, Int.reduceMul, Int.reduceDiv, ↓s_cursor_Cursor_forward_1, ha, hs, h1, hix, hck, leq_cmpS]
    rfl
  · (repeat (first | exact Fr.refl _ | refine Fr.push ?_ _ | refine Fr.set ?_ _ _ (by intro h; first | omega | (simp only [go_sem] at h; omega))))

theorem q_forward (b : Nat) (l : List Pr) (v : Value) (sf st key : ByteArray) (side : Int) (H : AHeap) (c : Cur H b sf st side key) (hr : Rd EPr H v l) (ho : one v = true) (hsl : ∃ a n k, v = .slice a n k) (hs : Srt l) (hl : l.length ≤ 20000) :
    CC F.cursor_Cursor_forward [.pointer (some ⟨b, 0, none⟩), v] H = some (.int .i64 (fwd l side key : Nat), H) := by
  obtain ⟨va, vn, vk, rfl⟩ := hsl
  generalize hH1 : H.push (.cells [.pointer (some ⟨b, 0, none⟩)] T.p_cursor_Cursor true) = H1
  have s1 : Still H H1 := by rw [← hH1]; exact (Fr.refl H).push _
  have n1 : H1.n = H.n + 1 := by rw [← hH1]; rfl
  have f1 : H1.f H.n = .cells [.pointer (some ⟨b, 0, none⟩)] T.p_cursor_Cursor true := by rw [← hH1]; exact push_f_eq rfl
  generalize hH2 : H1.push (.cells [.slice va vn vk] T.sl_api_Pair true) = H2
  have s2 : Still H1 H2 := by rw [← hH2]; exact (Fr.refl H1).push _
  have f2 : H2.f H1.n = .cells [.slice va vn vk] T.sl_api_Pair true := by rw [← hH2]; exact push_f_eq rfl
  have f21 : H2.f H.n = .cells [.pointer (some ⟨b, 0, none⟩)] T.p_cursor_Cursor true := by rw [s2.f (by omega) (fun h => h), f1]
  have c2 := (c.still s1).still s2
  have h2 := c2.1
  have hr2 := (hr.still s1).still s2
  have hlen := hr2.lenS
  have st : Still H H2 := s1.still.then s2 fun _ _ h => h
  unfold fwd
  by_cases e1 : side = 1
  · rw [if_pos e1]
    refine pure_of (H' := H2) ?_ (d_cursor_Cursor_forward _ _ H) rfl st
    simp (disch := first | with_reducible rfl | assumption | omega | rfl | (simp only [go_sem]; first | done | omega)) only [go_sem, ↓reduceIte, reduceCtorEq, Nat.reduceEqDiff, Nat.reduceAdd, Nat.reduceSub, Nat.reduceMul, Nat.reduceDiv, Nat.reduceMod, Nat.reduceLeDiff, Nat.reduceLT, Nat.reduceBEq, Int.reduceEq, Int.reduceBEq, Int.reduceBNe, Int.reduceLT, Int.reduceLE, Int.reduceAdd, Int.reduceSub, Int.reduceNeg, Int.reduceToNat, Int.reducePow, Nat.reducePow, Int.reduceMul, Int.reduceDiv, ↓s_cursor_Cursor_forward, hH1, hH2, f21, h2, decide_eq_true e1]
  · rw [if_neg e1]
    by_cases e3 : side = 3
    · rw [if_pos e3]
      refine pure_of (H' := H2) ?_ (d_cursor_Cursor_forward _ _ H) rfl st
      simp (disch := first | with_reducible rfl | assumption | omega | rfl | (simp only [go_sem]; first | done | omega)) only [go_sem, ↓reduceIte, reduceCtorEq, Nat.reduceEqDiff, Nat.reduceAdd, Nat.reduceSub, Nat.reduceMul, Nat.reduceDiv, Nat.reduceMod, Nat.reduceLeDiff, Nat.reduceLT, Nat.reduceBEq, Int.reduceEq, Int.reduceBEq, Int.reduceBNe, Int.reduceLT, Int.reduceLE, Int.reduceAdd, Int.reduceSub, Int.reduceNeg, Int.reduceToNat, Int.reducePow, Nat.reducePow, Int.reduceMul, Int.reduceDiv, ↓s_cursor_Cursor_forward, hH1, hH2, f21, h2, decide_eq_false e1, decide_eq_true e3, f2, hlen]
    · rw [if_neg e3]
      obtain ⟨p1, p2⟩ := posG_pos hs key
      have hq := q_Search (.func (.func F.cursor_Cursor_forward_1) #[] #[.pointer (some ⟨H1.n, 0, none⟩), .pointer (some ⟨H.n, 0, none⟩)]) l.length (posG l key) (fun j => if h : j < l.length then !decide (cmpS l[j].key key ≤ 0) else true) H2 (by omega) (posG_le l key)
        (fun j hj => by have hjl : j < l.length := by have := posG_le l key; omega
                        rw [dif_pos hjl, decide_eq_true (p1 j hjl hj)]; rfl) (fun j hj hp => by rw [dif_pos hj, decide_eq_false (p2 j hj hp)]; rfl)
        (fun j k hj => by rw [c_cursor_Cursor_forward_1, dif_pos hj]; exact enterK_eq (q_forward_1 l _ b sf _ key side H1.n H.n j H2 f2 f21 c2 hr2 hj))
      refine pure_of (H' := H2) ?_ (d_cursor_Cursor_forward _ _ H) rfl st
      simp (disch := first | with_reducible rfl | assumption | omega | rfl | (simp only [go_sem]; first | done | omega)) only [go_sem, ↓reduceIte, reduceCtorEq, Nat.reduceEqDiff, Nat.reduceAdd, Nat.reduceSub, Nat.reduceMul, Nat.reduceDiv, Nat.reduceMod, Nat.reduceLeDiff, Nat.reduceLT, Nat.reduceBEq, Int.reduceEq, Int.reduceBEq, Int.reduceBNe, Int.reduceLT, Int.reduceLE, Int.reduceAdd, Int.reduceSub, Int.reduceNeg, Int.reduceToNat, Int.reducePow, Nat.reducePow, Int.reduceMul, Int.reduceDiv, ↓s_cursor_Cursor_forward, hH1, hH2, f21, h2, decide_eq_false e1, decide_eq_false e3, f2, hlen, enterK_eq hq]

/-- Where a cursor goes: the pair, the error, the side, the key. -/
def setC (l : List Pr) (i : Int) (e : Int) : Pr × Int × Int × ByteArray :=
  if h : 0 ≤ i ∧ i.toNat < l.length then (l[i.toNat], 0, 2, l[i.toNat].key) else (⟨mk [], mk []⟩, 17, e, mk [])

/-- A call that turns the cursor's block alone. -/
theorem q_set42 (b : Nat) (l : List Pr) (v : Value) (i e : Int) (sf st key : ByteArray) (side : Int) (H : AHeap) (ok : Ok H) (c : Cur H b sf st side key) (hr : Rd EPr H v l) (hb : blockOf v ≠ some b) (hl : l.length ≤ 20000) :
    ∃ H', CC F.cursor_Cursor_set [.pointer (some ⟨b, 0, none⟩), v, .int .i64 i, .int .i64 e] H = some (.tuple #[.agg #[.string (setC l i e).1.key, .string (setC l i e).1.value], .int .i64 (setC l i e).2.1], H') ∧ Cur H' b sf st (setC l i e).2.2.1 (setC l i e).2.2.2 ∧ Fr (fun c => c = b) H H' := by
  have h1 := c.1
  have hb2 := c.2
  have hlen := hr.lenS
  generalize hH1 : H.push (.cells [.string (mk []), .string (mk [])] T.api_Pair true) = H1
  have s1 : Still H H1 := by rw [← hH1]; exact (Fr.refl H).push _
  have n1 : H1.n = H.n + 1 := by rw [← hH1]; rfl
  have f1 : H1.f H.n = .cells [.string (mk []), .string (mk [])] T.api_Pair true := by rw [← hH1]; exact push_f_eq rfl
  have fb1 : H1.f b = .cells [.string sf, .string st, .int .i64 side, .string key] T.cursor_Cursor true := by rw [s1.f hb2 (fun h => h), h1]
  have k1 := s1.clk
  unfold setC
  by_cases h : 0 ≤ i ∧ i.toNat < l.length
  · rw [dif_pos h]
    obtain ⟨k, rfl⟩ : ∃ k : Nat, i = (k : Int) := ⟨i.toNat, by omega⟩
    simp only [Int.toNat_natCast] at h ⊢
    have hk : k < l.length := h.2
    have e1 : ¬ (k : Int) < 0 := by omega
    have e2 : ¬ (l.length : Int) ≤ (k : Int) := by omega
    obtain ⟨b1, o1, hix, hbn, hc, hbl⟩ := (hr.still s1).ix (q := .i64) hk
    have hix : ixS 2 v (.int .i64 k) = some (.pointer (some ⟨b1, o1, none⟩)) := hix
    have hck : cellB (H1.f b1) o1 = some (.string l[k].key) := cutB_cell hc (i := 0) (by decide)
    have hc : cutB (H1.f b1) o1 2 = some [.string l[k].key, .string l[k].value] := hc
    have hne : b1 ≠ b := fun h => hb (by rw [hbl, h])
    generalize hH2 : H1.set b (.cells [.string sf, .string st, .int .i64 2, .string key] T.cursor_Cursor true) = H2
    generalize hH3 : H2.set b (.cells [.string sf, .string st, .int .i64 2, .string l[k].key] T.cursor_Cursor true) = H3
    have f2 : H2.f b = .cells [.string sf, .string st, .int .i64 2, .string key] T.cursor_Cursor true := by rw [← hH2]; exact set_f_eq
    have f2b : H2.f b1 = H1.f b1 := by rw [← hH2]; exact set_f_ne hne
    have f3 : H3.f b = .cells [.string sf, .string st, .int .i64 2, .string l[k].key] T.cursor_Cursor true := by rw [← hH3]; exact set_f_eq
    have f3b : H3.f b1 = H1.f b1 := by rw [← hH3, set_f_ne hne, f2b]
    have f3n : H3.f H.n = .cells [.string (mk []), .string (mk [])] T.api_Pair true := by rw [← hH3, set_f_ne (by omega), ← hH2, set_f_ne (by omega), f1]
    have fr2 : Fr (fun c => c = b) H H2 := by rw [← hH2]; exact Fr.set s1.still _ _ fun _ => rfl
    have fr3 : Fr (fun c => c = b) H H3 := by rw [← hH3]; exact Fr.set fr2 _ _ fun _ => rfl
    have c3 : cutB (H3.f b1) o1 2 = some [.string l[k].key, .string l[k].value] := by rw [f3b]; exact hc
    generalize hH4 : H3.set H.n (.cells [.string l[k].key, .string l[k].value] T.api_Pair true) = H4
    have f4 : H4.f b = .cells [.string sf, .string st, .int .i64 2, .string l[k].key] T.cursor_Cursor true := by rw [← hH4, set_f_ne (by omega), f3]
    have f4n : H4.f H.n = .cells [.string l[k].key, .string l[k].value] T.api_Pair true := by rw [← hH4]; exact set_f_eq
    have fr4 : Fr (fun c => c = b) H H4 := by rw [← hH4]; exact Fr.set fr3 _ _ fun h => by omega
    refine ⟨H4, (d_cursor_Cursor_set _ _ _ _ H (r := (.tuple #[.agg #[.string l[k].key, .string l[k].value], .int .i64 0], H4)) ?_).trans (congrArg some (tidy_turned hb2 (ok b) ?_)), ⟨f4, Nat.lt_of_lt_of_le hb2 fr4.n⟩, fr4⟩
    · simp (disch := first | with_reducible rfl | assumption | omega | rfl | (simp only [go_sem]; first | done | omega)) only [go_sem, ↓reduceIte, reduceCtorEq, Nat.reduceEqDiff, Nat.reduceAdd, Nat.reduceSub, Nat.reduceMul, Nat.reduceDiv, Nat.reduceMod, Nat.reduceLeDiff, Nat.reduceLT, Nat.reduceBEq, Int.reduceEq, Int.reduceBEq, Int.reduceBNe, Int.reduceLT, Int.reduceLE, Int.reduceAdd, Int.reduceSub, Int.reduceNeg, Int.reduceToNat, Int.reducePow, Nat.reducePow, Int.reduceMul, Int.reduceDiv, ↓s_cursor_Cursor_set, hH1, decide_eq_false e1, hlen, decide_eq_false e2, hix, hck, fb1, hH2, f2, hH3, f3, c3, f3n, hH4, f4n]
    · rw [← hH4, set_v_ne (by omega), ← hH3, set_v_eq]
      exact fr2.clk
  · rw [dif_neg h]
    generalize hH2 : H1.set b (.cells [.string sf, .string st, .int .i64 e, .string key] T.cursor_Cursor true) = H2
    generalize hH3 : H2.set b (.cells [.string sf, .string st, .int .i64 e, .string (mk [])] T.cursor_Cursor true) = H3
    have f2 : H2.f b = .cells [.string sf, .string st, .int .i64 e, .string key] T.cursor_Cursor true := by rw [← hH2]; exact set_f_eq
    have f3 : H3.f b = .cells [.string sf, .string st, .int .i64 e, .string (mk [])] T.cursor_Cursor true := by rw [← hH3]; exact set_f_eq
    have f3n : H3.f H.n = .cells [.string (mk []), .string (mk [])] T.api_Pair true := by rw [← hH3, set_f_ne (by omega), ← hH2, set_f_ne (by omega), f1]
    have fr2 : Fr (fun c => c = b) H H2 := by rw [← hH2]; exact Fr.set s1.still _ _ fun _ => rfl
    have fr3 : Fr (fun c => c = b) H H3 := by rw [← hH3]; exact Fr.set fr2 _ _ fun _ => rfl
    generalize hH4 : H3.set H.n (.cells [.string (mk []), .string (mk [])] T.api_Pair true) = H4
    have f4 : H4.f b = .cells [.string sf, .string st, .int .i64 e, .string (mk [])] T.cursor_Cursor true := by rw [← hH4, set_f_ne (by omega), f3]
    have f4n : H4.f H.n = .cells [.string (mk []), .string (mk [])] T.api_Pair true := by rw [← hH4]; exact set_f_eq
    have fr4 : Fr (fun c => c = b) H H4 := by rw [← hH4]; exact Fr.set fr3 _ _ fun h => by omega
    refine ⟨H4, (d_cursor_Cursor_set _ _ _ _ H (r := (.tuple #[.agg #[.string (mk []), .string (mk [])], .int .i64 17], H4)) ?_).trans (congrArg some (tidy_turned hb2 (ok b) ?_)), ⟨f4, Nat.lt_of_lt_of_le hb2 fr4.n⟩, fr4⟩
    · by_cases e1 : i < 0
      · simp (disch := first | with_reducible rfl | assumption | omega | rfl | (simp only [go_sem]; first | done | omega)) only [go_sem, ↓reduceIte, reduceCtorEq, Nat.reduceEqDiff, Nat.reduceAdd, Nat.reduceSub, Nat.reduceMul, Nat.reduceDiv, Nat.reduceMod, Nat.reduceLeDiff, Nat.reduceLT, Nat.reduceBEq, Int.reduceEq, Int.reduceBEq, Int.reduceBNe, Int.reduceLT, Int.reduceLE, Int.reduceAdd, Int.reduceSub, Int.reduceNeg, Int.reduceToNat, Int.reducePow, Nat.reducePow, Int.reduceMul, Int.reduceDiv, ↓s_cursor_Cursor_set, hH1, decide_eq_true e1, fb1, hH2, f2, hH3, f3n, hH4, f4n]
      · have e2 : (l.length : Int) ≤ i := by omega
        simp (disch := first | with_reducible rfl | assumption | omega | rfl | (simp only [go_sem]; first | done | omega)) only [go_sem, ↓reduceIte, reduceCtorEq, Nat.reduceEqDiff, Nat.reduceAdd, Nat.reduceSub, Nat.reduceMul, Nat.reduceDiv, Nat.reduceMod, Nat.reduceLeDiff, Nat.reduceLT, Nat.reduceBEq, Int.reduceEq, Int.reduceBEq, Int.reduceBNe, Int.reduceLT, Int.reduceLE, Int.reduceAdd, Int.reduceSub, Int.reduceNeg, Int.reduceToNat, Int.reducePow, Nat.reducePow, Int.reduceMul, Int.reduceDiv, ↓s_cursor_Cursor_set, hH1, decide_eq_false e1, hlen, decide_eq_true e2, fb1, hH2, f2, hH3, f3n, hH4, f4n]
    · rw [← hH4, set_v_ne (by omega), ← hH3, set_v_eq]
      exact fr2.clk

end Go.Proofs.Ytmbppjilnnjdaaa

/-
  Chapter 42: the cursor's methods, part 4.
  Conditions: none. By an AI agent.
-/
set_option maxRecDepth 10000
set_option linter.unusedSimpArgs false
set_option linter.unusedVariables false
namespace Go.Proofs.Ytmbppjilnnjdaaa
open Go Eng

theorem srt_filter {l : List Pr} (hs : Srt l) (p : Pr → Bool) : Srt (l.filter p) := List.Pairwise.sublist List.filter_sublist hs
theorem len_filter {l : List Pr} (hl : l.length ≤ 20000) (p : Pr → Bool) : (l.filter p).length ≤ 20000 := Nat.le_trans (List.length_filter_le _ _) hl
theorem Own.shape' {α : Type} {E : Enc α} {H : AHeap} {e : TypeId} {v : Value} {l : List α} (r : Own E H e v l) : ∃ a n k, v = .slice a n k := by
  rcases r with ⟨_, h⟩ | ⟨_, a, h, _⟩ | ⟨b, o, c, xs, h, _⟩ <;> exact ⟨_, _, _, h⟩

/-- A call that turns one block with a pair and an error as its answer. -/
theorem cur_tidied {H H' : AHeap} {b : Nat} {sf st key : ByteArray} {side : Int} {v : Value} (ok : Ok H) (hb : b < H.n) (c : Cur H' b sf st side key) (fr : Fr (fun c => c = b) H H') (hv : H.clk ≤ H'.ver b) : tidy H (v, H') = (v, H') := tidy_turned hb (ok b) hv

theorem q_Next (b bm : Nat) (l : List Pr) (sf st key : ByteArray) (side : Int) (H : AHeap) (ok : Ok H) (c : Cur H b sf st side key) (h0 : side ≠ 0) (r : Mdl H bm l) (hs : Srt l) (hl : l.length ≤ 20000) :
    ∃ w H', w = setC (l.filter (inR sf st)) (fwd (l.filter (inR sf st)) side key : Nat) 3 ∧ CC F.cursor_Cursor_Next [.pointer (some ⟨b, 0, none⟩), .pointer (some ⟨bm, 0, none⟩)] H = some (.tuple #[.agg #[.string w.1.key, .string w.1.value], .int .i64 w.2.1], H') ∧ Cur H' b sf st w.2.2.1 w.2.2.2 ∧ Fr (fun c => c = b) H H' := by
  generalize hH1 : H.push (.cells [.string (mk []), .string (mk [])] T.api_Pair true) = H1
  have s1 : Still H H1 := by rw [← hH1]; exact (Fr.refl H).push _
  have n1 : H1.n = H.n + 1 := by rw [← hH1]; rfl
  have f1 : H1.f H.n = .cells [.string (mk []), .string (mk [])] T.api_Pair true := by rw [← hH1]; exact push_f_eq rfl
  have c1 := c.still s1
  have hz := q_zero b sf st key side H1 c1 h0
  obtain ⟨v, H2, hp, ho, s2, hn2⟩ := q_span_pairs bm l sf st H1 (r.still s1) hs hl
  have c2 := c1.still s2
  have hsR := srt_filter hs (inR sf st)
  have hlR := len_filter hl (inR sf st)
  generalize l.filter (inR sf st) = R at ho hsR hlR ⊢
  have hfw := q_forward b R v sf st key side H2 c2 ho.rd ho.cell (Own.shape' ho) hsR hlR
  have ok2 : Ok H2 := (ok.fr s1).fr s2
  have hb2 := c.2
  have nb : blockOf v ≠ some b := fun h => by have := hn2 b h; omega
  obtain ⟨H3, hset, c3, fr3⟩ := q_set42 b R v (fwd R side key : Nat) 3 sf st key side H2 ok2 c2 ho.rd nb hlR
  generalize hw : setC R (fwd R side key : Nat) 3 = w at *
  have n2 : H1.n ≤ H2.n := s2.n
  have st2 : Still H H2 := s1.still.then s2 fun _ _ h => h
  have fr : Fr (fun c => c = b) H H3 := st2.still.then fr3 fun c _ h => h
  have f2 : H2.f H.n = .cells [.string (mk []), .string (mk [])] T.api_Pair true := by rw [s2.f (by omega) (fun h => h), f1]
  have f3 : H3.f H.n = .cells [.string (mk []), .string (mk [])] T.api_Pair true := by rw [fr3.f (by omega) (by omega), f2]
  have hcl := c1.1
  generalize hH4 : H3.set H.n (.cells [.string w.1.key, .string w.1.value] T.api_Pair true) = H4
  have f4n : H4.f H.n = .cells [.string w.1.key, .string w.1.value] T.api_Pair true := by rw [← hH4]; exact set_f_eq
  have c4 : Cur H4 b sf st w.2.2.1 w.2.2.2 := ⟨by rw [← hH4, set_f_ne (by omega)]; exact c3.1, by rw [← hH4]; exact c3.2⟩
  have fr4 : Fr (fun c => c = b) H H4 := by rw [← hH4]; exact Fr.set fr _ _ fun h => by omega
  obtain ⟨H5, hx, c5, fr5⟩ : ∃ H5, tidy H (.tuple #[.agg #[.string w.1.key, .string w.1.value], .int .i64 w.2.1], H4) = (.tuple #[.agg #[.string w.1.key, .string w.1.value], .int .i64 w.2.1], H5) ∧ Cur H5 b sf st w.2.2.1 w.2.2.2 ∧ Fr (fun c => c = b) H H5 := by
    unfold tidy
    split
    · rename_i hg
      simp only [Bool.and_eq_true] at hg
      refine ⟨H, rfl, ⟨?_, hb2⟩, Fr.refl H⟩
      rcases fr4.old b hb2 with h | ⟨h, _⟩
      · rw [← h.2]; exact c4.1
      · have := List.all_eq_true.1 hg.2 b (by simpa using hb2)
        have := ok b
        simp at *
        omega
    · exact ⟨H4, rfl, c4, fr4⟩
  refine ⟨w, H5, rfl, (d_cursor_Cursor_Next _ _ H (r := (.tuple #[.agg #[.string w.1.key, .string w.1.value], .int .i64 w.2.1], H4)) ?_).trans (congrArg some hx), c5, fr5⟩
  simp (disch := first | with_reducible rfl | assumption | omega | rfl | (simp only [go_sem]; first | done | omega)) only [go_sem, ↓reduceIte, reduceCtorEq, Nat.reduceEqDiff, Nat.reduceAdd, Nat.reduceSub, Nat.reduceMul, Nat.reduceDiv, Nat.reduceMod, Nat.reduceLeDiff, Nat.reduceLT, Nat.reduceBEq, Int.reduceEq, Int.reduceBEq, Int.reduceBNe, Int.reduceLT, Int.reduceLE, Int.reduceAdd, Int.reduceSub, Int.reduceNeg, Int.reduceToNat, Int.reducePow, Nat.reducePow, Int.reduceMul, Int.reduceDiv, ↓s_cursor_Cursor_Next, hH1, enterK_eq hz, mp_some, hcl, enterK_eq hp, enterK_eq hfw, enterK_eq hset, f3, hH4, f4n]

end Go.Proofs.Ytmbppjilnnjdaaa

/-
  Chapter 42: the cursor's methods, part 5: Rest, Prev.
  Conditions: none. By an AI agent.
-/
set_option maxRecDepth 10000
set_option linter.unusedSimpArgs false
set_option linter.unusedVariables false
namespace Go.Proofs.Ytmbppjilnnjdaaa
open Go Eng

theorem Cur.tidied {H H4 : AHeap} {b : Nat} {sf st key key' : ByteArray} {side side' : Int} {v : Value} (ok : Ok H) (c : Cur H b sf st side key) (c4 : Cur H4 b sf st side' key') (fr4 : Fr (fun c => c = b) H H4) :
    ∃ H5, tidy H (v, H4) = (v, H5) ∧ Cur H5 b sf st side' key' ∧ Fr (fun c => c = b) H H5 := by
  have hb2 := c.2
  unfold tidy
  split
  · rename_i hg
    simp only [Bool.and_eq_true] at hg
    refine ⟨H, rfl, ⟨?_, hb2⟩, Fr.refl H⟩
    rcases fr4.old b hb2 with h | ⟨h, _⟩
    · rw [← h.2]; exact c4.1
    · have := List.all_eq_true.1 hg.2 b (by simpa using hb2)
      have := ok b
      simp at *
      omega
  · exact ⟨H4, rfl, c4, fr4⟩

theorem fwd_le (R : List Pr) (side : Int) (key : ByteArray) : fwd R side key ≤ R.length := by
  unfold fwd
  split
  · omega
  · split
    · omega
    · exact posG_le R key

theorem q_Rest (b bm : Nat) (l : List Pr) (sf st key : ByteArray) (side : Int) (H : AHeap) (c : Cur H b sf st side key) (h0 : side ≠ 0) (r : Mdl H bm l) (hs : Srt l) (hl : l.length ≤ 20000) :
    ∃ v' H', CC F.cursor_Cursor_Rest [.pointer (some ⟨b, 0, none⟩), .pointer (some ⟨bm, 0, none⟩)] H = some (.tuple #[v', .int .i64 0], H') ∧ Own EPr H' T.api_Pair v' ((l.filter (inR sf st)).drop (fwd (l.filter (inR sf st)) side key)) ∧ Still H H' := by
  have hz := q_zero b sf st key side H c h0
  obtain ⟨v, H2, hp, ho, s2, hn2⟩ := q_span_pairs bm l sf st H r hs hl
  have c2 := c.still s2
  have hsR := srt_filter hs (inR sf st)
  have hlR := len_filter hl (inR sf st)
  generalize l.filter (inR sf st) = R at ho hsR hlR ⊢
  have hfw := q_forward b R v sf st key side H2 c2 ho.rd ho.cell (Own.shape' ho) hsR hlR
  obtain ⟨v', hsl, ho', hb'⟩ := ho.drop (sz := 2) rfl (fwd_le R side key) (q := .i64)
  have hone := ho'.cell
  have h1 := c.1
  obtain ⟨H'', h⟩ := own_tidied2 (n := 0) ho' s2 (fun d hd => hn2 d (by rw [← hb']; exact hd)) (d_cursor_Cursor_Rest (.pointer (some ⟨b, 0, none⟩)) (.pointer (some ⟨bm, 0, none⟩)) H (r := (.tuple #[v', .int .i64 0], H2)) (by
    simp (disch := first | with_reducible rfl | assumption | omega | rfl | (simp only [go_sem]; first | done | omega)) only [go_sem, ↓reduceIte, reduceCtorEq, Nat.reduceEqDiff, Nat.reduceAdd, Nat.reduceSub, Nat.reduceMul, Nat.reduceDiv, Nat.reduceMod, Nat.reduceLeDiff, Nat.reduceLT, Nat.reduceBEq, Int.reduceEq, Int.reduceBEq, Int.reduceBNe, Int.reduceLT, Int.reduceLE, Int.reduceAdd, Int.reduceSub, Int.reduceNeg, Int.reduceToNat, Int.reducePow, Nat.reducePow, Int.reduceMul, Int.reduceDiv, ↓s_cursor_Cursor_Rest, enterK_eq hz, mp_some, h1, enterK_eq hp, enterK_eq hfw, hsl]))
  exact ⟨v', H'', h⟩

/-- The index to which a cursor goes back. -/
def bwd (l : List Pr) (side : Int) (key : ByteArray) : Int := if side = 3 then (l.length : Int) - 1 else if side = 2 then (posP l key : Int) - 1 else -1

theorem q_Prev_1 (l : List Pr) (v : Value) (b : Nat) (sf st key : ByteArray) (side : Int) (a s j : Nat) (H : AHeap) (ha : H.f a = .cells [v] T.sl_api_Pair true) (hs : H.f s = .cells [.pointer (some ⟨b, 0, none⟩)] T.p_cursor_Cursor true) (c : Cur H b sf st side key) (hr : Rd EPr H v l) (hj : j < l.length) :
    CC F.cursor_Cursor_Prev_1 [.int .i64 (j : Int), .pointer (some ⟨a, 0, none⟩), .pointer (some ⟨s, 0, none⟩)] H = some (.bool (!decide (cmpS l[j].key key < 0)), H) := by
  obtain ⟨b1, o1, hix, _, hc, _⟩ := hr.ix (q := .i64) hj
  have hix : ixS 2 v (.int .i64 j) = some (.pointer (some ⟨b1, o1, none⟩)) := hix
  have hck : cellB (H.f b1) o1 = some (.string l[j].key) := cutB_cell hc (i := 0) (by decide)
  have h1 := c.1
  apply pure_of _ (d_cursor_Cursor_Prev_1 _ _ _ H) rfl
  rotate_left 2
  · simp (disch := first | with_reducible rfl | assumption | omega | rfl | (simp only [go_sem]; first | done | omega)) only [go_sem, ↓reduceIte, reduceCtorEq, Nat.reduceEqDiff, Nat.reduceAdd, Nat.reduceSub, Nat.reduceMul, Nat.reduceDiv, Nat.reduceMod, Nat.reduceLeDiff, Nat.reduceLT, Nat.reduceBEq, Int.reduceEq, Int.reduceBEq, Int.reduceBNe, Int.reduceLT, Int.reduceLE, Int.reduceAdd, Int.reduceSub, Int.reduceNeg, Int.reduceToNat, Int.reducePow, Nat.reducePow, Int.reduceMul, Int.reduceDiv, ↓s_cursor_Cursor_Prev_1, ha, hs, h1, hix, hck, less_cmpS]
    rfl
  · (repeat (first | exact Fr.refl _ | refine Fr.push ?_ _ | refine Fr.set ?_ _ _ (by intro h; first | omega | (simp only [go_sem] at h; omega))))

theorem q_Prev (b bm : Nat) (l : List Pr) (sf st key : ByteArray) (side : Int) (H : AHeap) (ok : Ok H) (c : Cur H b sf st side key) (h0 : side ≠ 0) (r : Mdl H bm l) (hs : Srt l) (hl : l.length ≤ 20000) :
    ∃ w H', w = setC (l.filter (inR sf st)) (bwd (l.filter (inR sf st)) side key) 1 ∧ CC F.cursor_Cursor_Prev [.pointer (some ⟨b, 0, none⟩), .pointer (some ⟨bm, 0, none⟩)] H = some (.tuple #[.agg #[.string w.1.key, .string w.1.value], .int .i64 w.2.1], H') ∧ Cur H' b sf st w.2.2.1 w.2.2.2 ∧ Fr (fun c => c = b) H H' := by
  generalize hH0 : H.push (.cells [.pointer (some ⟨b, 0, none⟩)] T.p_cursor_Cursor true) = Hy
  have sy : Still H Hy := by rw [← hH0]; exact (Fr.refl H).push _
  have ny : Hy.n = H.n + 1 := by rw [← hH0]; rfl
  have fy : Hy.f H.n = .cells [.pointer (some ⟨b, 0, none⟩)] T.p_cursor_Cursor true := by rw [← hH0]; exact push_f_eq rfl
  generalize hH1 : Hy.push (.cells [.string (mk []), .string (mk [])] T.api_Pair true) = H1
  have s1 : Still Hy H1 := by rw [← hH1]; exact (Fr.refl Hy).push _
  have n1 : H1.n = Hy.n + 1 := by rw [← hH1]; rfl
  have f1 : H1.f Hy.n = .cells [.string (mk []), .string (mk [])] T.api_Pair true := by rw [← hH1]; exact push_f_eq rfl
  have f1y : H1.f H.n = .cells [.pointer (some ⟨b, 0, none⟩)] T.p_cursor_Cursor true := by rw [s1.f (by omega) (fun h => h), fy]
  have c1 := (c.still sy).still s1
  have hz := q_zero b sf st key side H1 c1 h0
  obtain ⟨v, H2, hp, ho, s2, hn2⟩ := q_span_pairs bm l sf st H1 ((r.still sy).still s1) hs hl
  have n2 : H1.n ≤ H2.n := s2.n
  have f2y : H2.f H.n = .cells [.pointer (some ⟨b, 0, none⟩)] T.p_cursor_Cursor true := by rw [s2.f (by omega) (fun h => h), f1y]
  have hone := ho.cell
  generalize hH3 : (H2.push (.cells [.slice none 0 0] T.sl_api_Pair true)).set H2.n (.cells [v] T.sl_api_Pair true) = H3
  have s3 : Still H2 H3 := by rw [← hH3]; exact Fr.set ((Fr.refl H2).push _) _ _ (fun h => by omega)
  have n3 : H3.n = H2.n + 1 := by rw [← hH3]; rfl
  have f3 : H3.f H2.n = .cells [v] T.sl_api_Pair true := by rw [← hH3]; exact set_f_eq
  have f3y : H3.f H.n = .cells [.pointer (some ⟨b, 0, none⟩)] T.p_cursor_Cursor true := by rw [s3.f (by omega) (fun h => h), f2y]
  have c3 := (c1.still s2).still s3
  have hsR := srt_filter hs (inR sf st)
  have hlR := len_filter hl (inR sf st)
  generalize l.filter (inR sf st) = R at ho hsR hlR ⊢
  have ho3 := ho.still s3
  have hlen := ho3.rd.lenS
  have ok3 : Ok H3 := (((ok.fr sy).fr s1).fr s2).fr s3
  have hb2 := c.2
  have nb : blockOf v ≠ some b := fun h => by have := hn2 b h; omega
  obtain ⟨H4, hset, c4, fr4⟩ := q_set42 b R v (bwd R side key) 1 sf st key side H3 ok3 c3 ho3.rd nb hlR
  generalize hw : setC R (bwd R side key) 1 = w at *
  have st3 : Still H H3 := ((sy.then s1 fun _ _ h => h).still.then s2 fun _ _ h => h).still.then s3 fun _ _ h => h
  have fr : Fr (fun c => c = b) H H4 := st3.still.then fr4 fun c _ h => h
  have f3p : H3.f Hy.n = .cells [.string (mk []), .string (mk [])] T.api_Pair true := by rw [s3.f (by omega) (fun h => h), s2.f (by omega) (fun h => h), f1]
  have f4 : H4.f Hy.n = .cells [.string (mk []), .string (mk [])] T.api_Pair true := by rw [fr4.f (by omega) (by omega), f3p]
  have hcl := c1.1
  have hcl3 := c3.1
  generalize hH5 : H4.set Hy.n (.cells [.string w.1.key, .string w.1.value] T.api_Pair true) = H5
  have f5n : H5.f Hy.n = .cells [.string w.1.key, .string w.1.value] T.api_Pair true := by rw [← hH5]; exact set_f_eq
  have c5 : Cur H5 b sf st w.2.2.1 w.2.2.2 := ⟨by rw [← hH5, set_f_ne (by omega)]; exact c4.1, by rw [← hH5]; exact c4.2⟩
  have fr5 : Fr (fun c => c = b) H H5 := by rw [← hH5]; exact Fr.set fr _ _ fun h => by omega
  obtain ⟨H6, hx, c6, fr6⟩ := Cur.tidied (v := .tuple #[.agg #[.string w.1.key, .string w.1.value], .int .i64 w.2.1]) ok c c5 fr5
  refine ⟨w, H6, rfl, (d_cursor_Cursor_Prev _ _ H (r := (.tuple #[.agg #[.string w.1.key, .string w.1.value], .int .i64 w.2.1], H5)) ?_).trans (congrArg some hx), c6, fr6⟩
  unfold bwd at hset
  by_cases e3 : side = 3
  · rw [if_pos e3] at hset
    simp (disch := first | with_reducible rfl | assumption | omega | rfl | (simp only [go_sem]; first | done | omega)) only [go_sem, ↓reduceIte, reduceCtorEq, Nat.reduceEqDiff, Nat.reduceAdd, Nat.reduceSub, Nat.reduceMul, Nat.reduceDiv, Nat.reduceMod, Nat.reduceLeDiff, Nat.reduceLT, Nat.reduceBEq, Int.reduceEq, Int.reduceBEq, Int.reduceBNe, Int.reduceLT, Int.reduceLE, Int.reduceAdd, Int.reduceSub, Int.reduceNeg, Int.reduceToNat, Int.reducePow, Nat.reducePow, Int.reduceMul, Int.reduceDiv, ↓s_cursor_Cursor_Prev, hH0, hH1, f1y, enterK_eq hz, mp_some, hcl, enterK_eq hp, hH3, f3y, hcl3, decide_eq_true e3, f3, hlen, enterK_eq hset, f4, hH5, f5n]
  · rw [if_neg e3] at hset
    by_cases e2 : side = 2
    · rw [if_pos e2] at hset
      obtain ⟨_, p1, p2⟩ := posP_pos hsR key
      have hq := q_Search (.func (.func F.cursor_Cursor_Prev_1) #[] #[.pointer (some ⟨H2.n, 0, none⟩), .pointer (some ⟨H.n, 0, none⟩)]) R.length (posP R key) (fun j => if h : j < R.length then !decide (cmpS R[j].key key < 0) else true) H3 (by omega) (posP_le R key)
        (fun j hj => by have hjl : j < R.length := by have := posP_le R key; omega
                        rw [dif_pos hjl, decide_eq_true (p1 j hjl hj)]; rfl) (fun j hj hp => by rw [dif_pos hj, decide_eq_false (p2 j hj hp)]; rfl)
        (fun j k hj => by rw [c_cursor_Cursor_Prev_1, dif_pos hj]; exact enterK_eq (q_Prev_1 R _ b sf st key side H2.n H.n j H3 f3 f3y c3 ho3.rd hj))
      simp (disch := first | with_reducible rfl | assumption | omega | rfl | (simp only [go_sem]; first | done | omega)) only [go_sem, ↓reduceIte, reduceCtorEq, Nat.reduceEqDiff, Nat.reduceAdd, Nat.reduceSub, Nat.reduceMul, Nat.reduceDiv, Nat.reduceMod, Nat.reduceLeDiff, Nat.reduceLT, Nat.reduceBEq, Int.reduceEq, Int.reduceBEq, Int.reduceBNe, Int.reduceLT, Int.reduceLE, Int.reduceAdd, Int.reduceSub, Int.reduceNeg, Int.reduceToNat, Int.reducePow, Nat.reducePow, Int.reduceMul, Int.reduceDiv, ↓s_cursor_Cursor_Prev, hH0, hH1, f1y, enterK_eq hz, mp_some, hcl, enterK_eq hp, hH3, f3y, hcl3, decide_eq_false e3, decide_eq_true e2, f3, hlen, enterK_eq hq, enterK_eq hset, f4, hH5, f5n]
    · rw [if_neg e2] at hset
      simp (disch := first | with_reducible rfl | assumption | omega | rfl | (simp only [go_sem]; first | done | omega)) only [go_sem, ↓reduceIte, reduceCtorEq, Nat.reduceEqDiff, Nat.reduceAdd, Nat.reduceSub, Nat.reduceMul, Nat.reduceDiv, Nat.reduceMod, Nat.reduceLeDiff, Nat.reduceLT, Nat.reduceBEq, Int.reduceEq, Int.reduceBEq, Int.reduceBNe, Int.reduceLT, Int.reduceLE, Int.reduceAdd, Int.reduceSub, Int.reduceNeg, Int.reduceToNat, Int.reducePow, Nat.reducePow, Int.reduceMul, Int.reduceDiv, ↓s_cursor_Cursor_Prev, hH0, hH1, f1y, enterK_eq hz, mp_some, hcl, enterK_eq hp, hH3, f3y, hcl3, decide_eq_false e3, decide_eq_false e2, f3, enterK_eq hset, f4, hH5, f5n]

end Go.Proofs.Ytmbppjilnnjdaaa

/-
  Chapter 42: the cursor's methods, part 6: See, Copy, Seek.
  Conditions: none. By an AI agent.
-/
set_option maxRecDepth 10000
set_option linter.unusedSimpArgs false
set_option linter.unusedVariables false
namespace Go.Proofs.Ytmbppjilnnjdaaa
open Go Eng

theorem q_See_none (b bm : Nat) (sf st key : ByteArray) (side : Int) (H : AHeap) (c : Cur H b sf st side key) (h0 : side ≠ 0) (h2 : side ≠ 2) :
    CC F.cursor_Cursor_See [.pointer (some ⟨b, 0, none⟩), .pointer (some ⟨bm, 0, none⟩)] H = some (.tuple #[.agg #[.string (mk []), .string (mk [])], .int .i64 9], H) := by
  have s1 : Still H (H.push (.cells [.string (mk []), .string (mk [])] T.api_Pair true)) := (Fr.refl H).push _
  have c1 := c.still s1
  have hz := q_zero b sf st key side _ c1 h0
  have h1 := c.1
  have hb := c.2
  apply pure_of _ (d_cursor_Cursor_See _ _ H) rfl
  rotate_left 2
  · simp (disch := first | with_reducible rfl | assumption | omega | rfl | (simp only [go_sem]; first | done | omega)) only [go_sem, ↓reduceIte, reduceCtorEq, Nat.reduceEqDiff, Nat.reduceAdd, Nat.reduceSub, Nat.reduceMul, Nat.reduceDiv, Nat.reduceMod, Nat.reduceLeDiff, Nat.reduceLT, Nat.reduceBEq, Int.reduceEq, Int.reduceBEq, Int.reduceBNe, Int.reduceLT, Int.reduceLE, Int.reduceAdd, Int.reduceSub, Int.reduceNeg, Int.reduceToNat, Int.reducePow, Nat.reducePow, Int.reduceMul, Int.reduceDiv, ↓s_cursor_Cursor_See, enterK_eq hz, mp_some, h1, decide_eq_false h2]
    rfl
  · exact Fr.set s1 _ _ fun h => by omega

/-- What a cursor sees at a key. -/
def seeV (g : Value) (key : ByteArray) : Value := match g with | .tuple #[.string v, .int _ 0] => .tuple #[.agg #[.string key, .string v], .int .i64 0] | _ => .tuple #[.agg #[.string (mk []), .string (mk [])], .int .i64 9]

theorem q_See (b bm : Nat) (sf st key s : ByteArray) (e : Int) (H : AHeap) (c : Cur H b sf st 2 key) (hg : ∀ H', Still H H' → CC F.model_Model_Get [.pointer (some ⟨bm, 0, none⟩), .string key] H' = some (.tuple #[.string s, .int .i64 e], H')) :
    CC F.cursor_Cursor_See [.pointer (some ⟨b, 0, none⟩), .pointer (some ⟨bm, 0, none⟩)] H = some (if e = 0 then .tuple #[.agg #[.string key, .string s], .int .i64 0] else .tuple #[.agg #[.string (mk []), .string (mk [])], .int .i64 9], H) := by
  have s1 : Still H (H.push (.cells [.string (mk []), .string (mk [])] T.api_Pair true)) := (Fr.refl H).push _
  have c1 := c.still s1
  have hz := q_zero b sf st key 2 _ c1 (by decide)
  have h1 := c.1
  have hb := c.2
  have hg := hg _ s1
  by_cases he : e = 0
  · rw [if_pos he]
    apply pure_of _ (d_cursor_Cursor_See _ _ H) rfl
    rotate_left 2
    · simp (disch := first | with_reducible rfl | assumption | omega | rfl | (simp only [go_sem]; first | done | omega)) only [go_sem, ↓reduceIte, reduceCtorEq, Nat.reduceEqDiff, Nat.reduceAdd, Nat.reduceSub, Nat.reduceMul, Nat.reduceDiv, Nat.reduceMod, Nat.reduceLeDiff, Nat.reduceLT, Nat.reduceBEq, Int.reduceEq, Int.reduceBEq, Int.reduceBNe, Int.reduceLT, Int.reduceLE, Int.reduceAdd, Int.reduceSub, Int.reduceNeg, Int.reduceToNat, Int.reducePow, Nat.reducePow, Int.reduceMul, Int.reduceDiv, ↓s_cursor_Cursor_See, enterK_eq hz, mp_some, h1, enterK_eq hg, decide_eq_true he]
      rfl
    · exact Fr.set s1 _ _ fun h => by omega
  · rw [if_neg he]
    apply pure_of _ (d_cursor_Cursor_See _ _ H) rfl
    rotate_left 2
    · simp (disch := first | with_reducible rfl | assumption | omega | rfl | (simp only [go_sem]; first | done | omega)) only [go_sem, ↓reduceIte, reduceCtorEq, Nat.reduceEqDiff, Nat.reduceAdd, Nat.reduceSub, Nat.reduceMul, Nat.reduceDiv, Nat.reduceMod, Nat.reduceLeDiff, Nat.reduceLT, Nat.reduceBEq, Int.reduceEq, Int.reduceBEq, Int.reduceBNe, Int.reduceLT, Int.reduceLE, Int.reduceAdd, Int.reduceSub, Int.reduceNeg, Int.reduceToNat, Int.reducePow, Nat.reducePow, Int.reduceMul, Int.reduceDiv, ↓s_cursor_Cursor_See, enterK_eq hz, mp_some, h1, enterK_eq hg, decide_eq_false he]
      rfl
    · exact Fr.set s1 _ _ fun h => by omega

@[go_sem] theorem xload_Cursor {a : Value} {H : AHeap} : xload Try.prog T.cursor_Cursor a H = ldN 4 H a := by kernel_rfl
theorem q_CCopy (b : Nat) (sf st key : ByteArray) (side : Int) (H : AHeap) (c : Cur H b sf st side key) (h0 : side ≠ 0) :
    ∃ b' H', CC F.cursor_Cursor_Copy [.pointer (some ⟨b, 0, none⟩)] H = some (.pointer (some ⟨b', 0, none⟩), H') ∧ Cur H' b' sf st side key ∧ Still H H' ∧ H.n ≤ b' := by
  have hz := q_zero b sf st key side H c h0
  have h1 := c.1
  have hb := c.2
  generalize hH1 : (H.push (.cells [.string (mk []), .string (mk []), .int .i64 0, .string (mk [])] T.cursor_Cursor true)).set H.n (.cells [.string sf, .string st, .int .i64 side, .string key] T.cursor_Cursor true) = H1
  have s1 : Still H H1 := by rw [← hH1]; exact Fr.set ((Fr.refl H).push _) _ _ (fun h => by omega)
  refine ⟨H.n, H1, (d_cursor_Cursor_Copy _ H (r := (.pointer (some ⟨H.n, 0, none⟩), H1)) ?_).trans (congrArg some (tidy_mem rfl)), ⟨by rw [← hH1]; exact set_f_eq, by rw [← hH1]; simp⟩, s1, Nat.le_refl _⟩
  simp (disch := first | with_reducible rfl | assumption | omega | rfl | (simp only [go_sem]; first | done | omega)) only [go_sem, ↓reduceIte, reduceCtorEq, Nat.reduceEqDiff, Nat.reduceAdd, Nat.reduceSub, Nat.reduceMul, Nat.reduceDiv, Nat.reduceMod, Nat.reduceLeDiff, Nat.reduceLT, Nat.reduceBEq, Int.reduceEq, Int.reduceBEq, Int.reduceBNe, Int.reduceLT, Int.reduceLE, Int.reduceAdd, Int.reduceSub, Int.reduceNeg, Int.reduceToNat, Int.reducePow, Nat.reducePow, Int.reduceMul, Int.reduceDiv, ↓s_cursor_Cursor_Copy, enterK_eq hz, h1, hH1]

theorem q_span_has (sf st key : ByteArray) (H : AHeap) : CC F.cursor_span_has [.agg #[.string sf, .string st], .string key] H = some (.bool (inR sf st ⟨key, mk []⟩), H) := by
  unfold inR
  by_cases h1 : cmpS key sf < 0
  · rw [show decide (cmpS (⟨key, mk []⟩ : Pr).key sf < 0) = true from decide_eq_true h1]
    apply pure_of _ (d_cursor_span_has _ _ H) rfl
    rotate_left 2
    · simp (disch := first | with_reducible rfl | assumption | omega | rfl | (simp only [go_sem]; first | done | omega)) only [go_sem, ↓reduceIte, reduceCtorEq, Nat.reduceEqDiff, Nat.reduceAdd, Nat.reduceSub, Nat.reduceMul, Nat.reduceDiv, Nat.reduceMod, Nat.reduceLeDiff, Nat.reduceLT, Nat.reduceBEq, Int.reduceEq, Int.reduceBEq, Int.reduceBNe, Int.reduceLT, Int.reduceLE, Int.reduceAdd, Int.reduceSub, Int.reduceNeg, Int.reduceToNat, Int.reducePow, Nat.reducePow, Int.reduceMul, Int.reduceDiv, ↓s_cursor_span_has, less_cmpS, decide_eq_true h1]
      rfl
    · (repeat (first | exact Fr.refl _ | refine Fr.push ?_ _ | refine Fr.set ?_ _ _ (by intro h; first | omega | (simp only [go_sem] at h; omega))))
  · rw [show decide (cmpS (⟨key, mk []⟩ : Pr).key sf < 0) = false from decide_eq_false h1]
    by_cases h2 : bl st = []
    · rw [decide_eq_true h2]
      apply pure_of _ (d_cursor_span_has _ _ H) rfl
      rotate_left 2
      · simp (disch := first | with_reducible rfl | assumption | omega | rfl | (simp only [go_sem]; first | done | omega)) only [go_sem, ↓reduceIte, reduceCtorEq, Nat.reduceEqDiff, Nat.reduceAdd, Nat.reduceSub, Nat.reduceMul, Nat.reduceDiv, Nat.reduceMod, Nat.reduceLeDiff, Nat.reduceLT, Nat.reduceBEq, Int.reduceEq, Int.reduceBEq, Int.reduceBNe, Int.reduceLT, Int.reduceLE, Int.reduceAdd, Int.reduceSub, Int.reduceNeg, Int.reduceToNat, Int.reducePow, Nat.reducePow, Int.reduceMul, Int.reduceDiv, ↓s_cursor_span_has, less_cmpS, decide_eq_false h1, bl_mk, decide_eq_true h2]
        rfl
      · (repeat (first | exact Fr.refl _ | refine Fr.push ?_ _ | refine Fr.set ?_ _ _ (by intro h; first | omega | (simp only [go_sem] at h; omega))))
    · rw [decide_eq_false h2]
      apply pure_of _ (d_cursor_span_has _ _ H) rfl
      rotate_left 2
      · simp (disch := first | with_reducible rfl | assumption | omega | rfl | (simp only [go_sem]; first | done | omega)) only [go_sem, ↓reduceIte, reduceCtorEq, Nat.reduceEqDiff, Nat.reduceAdd, Nat.reduceSub, Nat.reduceMul, Nat.reduceDiv, Nat.reduceMod, Nat.reduceLeDiff, Nat.reduceLT, Nat.reduceBEq, Int.reduceEq, Int.reduceBEq, Int.reduceBNe, Int.reduceLT, Int.reduceLE, Int.reduceAdd, Int.reduceSub, Int.reduceNeg, Int.reduceToNat, Int.reducePow, Nat.reducePow, Int.reduceMul, Int.reduceDiv, ↓s_cursor_span_has, less_cmpS, decide_eq_false h1, bl_mk, decide_eq_false h2]
        rfl
      · (repeat (first | exact Fr.refl _ | refine Fr.push ?_ _ | refine Fr.set ?_ _ _ (by intro h; first | omega | (simp only [go_sem] at h; omega))))

end Go.Proofs.Ytmbppjilnnjdaaa

/-
  Chapter 42: the cursor's methods, part 7: Seek.
  Conditions: none. By an AI agent.
-/
set_option maxRecDepth 10000
set_option linter.unusedSimpArgs false
set_option linter.unusedVariables false
namespace Go.Proofs.Ytmbppjilnnjdaaa
open Go Eng

theorem q_Seek_1 (l : List Pr) (v : Value) (key : ByteArray) (a s j : Nat) (H : AHeap) (ha : H.f a = .cells [v] T.sl_api_Pair true) (hs : H.f s = .cells [.string key] T.string true) (hr : Rd EPr H v l) (hj : j < l.length) :
    CC F.cursor_Cursor_Seek_1 [.int .i64 (j : Int), .pointer (some ⟨a, 0, none⟩), .pointer (some ⟨s, 0, none⟩)] H = some (.bool (!decide (cmpS l[j].key key < 0)), H) := by
  obtain ⟨b1, o1, hix, _, hc, _⟩ := hr.ix (q := .i64) hj
  have hix : ixS 2 v (.int .i64 j) = some (.pointer (some ⟨b1, o1, none⟩)) := hix
  have hck : cellB (H.f b1) o1 = some (.string l[j].key) := cutB_cell hc (i := 0) (by decide)
  apply pure_of _ (d_cursor_Cursor_Seek_1 _ _ _ H) rfl
  rotate_left 2
  · simp (disch := first | with_reducible rfl | assumption | omega | rfl | (simp only [go_sem]; first | done | omega)) only [go_sem, ↓reduceIte, reduceCtorEq, Nat.reduceEqDiff, Nat.reduceAdd, Nat.reduceSub, Nat.reduceMul, Nat.reduceDiv, Nat.reduceMod, Nat.reduceLeDiff, Nat.reduceLT, Nat.reduceBEq, Int.reduceEq, Int.reduceBEq, Int.reduceBNe, Int.reduceLT, Int.reduceLE, Int.reduceAdd, Int.reduceSub, Int.reduceNeg, Int.reduceToNat, Int.reducePow, Nat.reducePow, Int.reduceMul, Int.reduceDiv, ↓s_cursor_Cursor_Seek_1, ha, hs, hix, hck, less_cmpS]
    rfl
  · (repeat (first | exact Fr.refl _ | refine Fr.push ?_ _ | refine Fr.set ?_ _ _ (by intro h; first | omega | (simp only [go_sem] at h; omega))))

/-- The error of a key that is sought. -/
def seekErr (sf st key : ByteArray) : Int := if bl key = [] then 2 else if 24 < ((bl key).length : Int) then 5 else if inR sf st ⟨key, mk []⟩ = true then 0 else 3

theorem q_Seek_bad (b bm : Nat) (sf st key k : ByteArray) (side : Int) (H : AHeap) (c : Cur H b sf st side k) (h0 : side ≠ 0) (hk : seekErr sf st key ≠ 0) :
    CC F.cursor_Cursor_Seek [.pointer (some ⟨b, 0, none⟩), .pointer (some ⟨bm, 0, none⟩), .string key] H = some (.tuple #[.agg #[.string (mk []), .string (mk [])], .int .i64 (seekErr sf st key)], H) := by
  generalize hH1 : H.push (.cells [.string key] T.string true) = H1
  have s1 : Still H H1 := by rw [← hH1]; exact (Fr.refl H).push _
  have n1 : H1.n = H.n + 1 := by rw [← hH1]; rfl
  have f1 : H1.f H.n = .cells [.string key] T.string true := by rw [← hH1]; exact push_f_eq rfl
  generalize hH2 : H1.push (.cells [.string (mk []), .string (mk [])] T.api_Pair true) = H2
  have s2 : Still H1 H2 := by rw [← hH2]; exact (Fr.refl H1).push _
  have n2 : H2.n = H1.n + 1 := by rw [← hH2]; rfl
  have f2 : H2.f H1.n = .cells [.string (mk []), .string (mk [])] T.api_Pair true := by rw [← hH2]; exact push_f_eq rfl
  have f21 : H2.f H.n = .cells [.string key] T.string true := by rw [s2.f (by omega) (fun h => h), f1]
  have c2 := (c.still s1).still s2
  have hz := q_zero b sf st k side H2 c2 h0
  have hb := c.2
  have h1 := c2.1
  have s12 : Still H H2 := s1.still.then s2 fun _ _ h => h
  have fin : Still H (H2.set H1.n (.cells [.string (mk []), .string (mk [])] T.api_Pair true)) := Fr.set s12 _ _ fun h => by omega
  have hhas := q_span_has sf st key H2
  unfold seekErr at hk ⊢
  by_cases e1 : bl key = []
  · rw [if_pos e1]
    refine pure_of (H' := H2.set H1.n (.cells [.string (mk []), .string (mk [])] T.api_Pair true)) ?_ (d_cursor_Cursor_Seek _ _ _ H) rfl fin
    simp (disch := first | with_reducible rfl | assumption | omega | rfl | (simp only [go_sem]; first | done | omega)) only [go_sem, ↓reduceIte, reduceCtorEq, Nat.reduceEqDiff, Nat.reduceAdd, Nat.reduceSub, Nat.reduceMul, Nat.reduceDiv, Nat.reduceMod, Nat.reduceLeDiff, Nat.reduceLT, Nat.reduceBEq, Int.reduceEq, Int.reduceBEq, Int.reduceBNe, Int.reduceLT, Int.reduceLE, Int.reduceAdd, Int.reduceSub, Int.reduceNeg, Int.reduceToNat, Int.reducePow, Nat.reducePow, Int.reduceMul, Int.reduceDiv, ↓s_cursor_Cursor_Seek, hH1, hH2, enterK_eq hz, mp_some, f21, bl_mk, decide_eq_true e1, f2]
  · rw [if_neg e1] at hk ⊢
    by_cases e2 : 24 < ((bl key).length : Int)
    · rw [if_pos e2]
      refine pure_of (H' := H2.set H1.n (.cells [.string (mk []), .string (mk [])] T.api_Pair true)) ?_ (d_cursor_Cursor_Seek _ _ _ H) rfl fin
      simp (disch := first | with_reducible rfl | assumption | omega | rfl | (simp only [go_sem]; first | done | omega)) only [go_sem, ↓reduceIte, reduceCtorEq, Nat.reduceEqDiff, Nat.reduceAdd, Nat.reduceSub, Nat.reduceMul, Nat.reduceDiv, Nat.reduceMod, Nat.reduceLeDiff, Nat.reduceLT, Nat.reduceBEq, Int.reduceEq, Int.reduceBEq, Int.reduceBNe, Int.reduceLT, Int.reduceLE, Int.reduceAdd, Int.reduceSub, Int.reduceNeg, Int.reduceToNat, Int.reducePow, Nat.reducePow, Int.reduceMul, Int.reduceDiv, ↓s_cursor_Cursor_Seek, hH1, hH2, enterK_eq hz, mp_some, f21, bl_mk, decide_eq_false e1, decide_eq_true e2, f2]
    · rw [if_neg e2] at hk ⊢
      have e3 : inR sf st ⟨key, mk []⟩ = false := by
        cases h : inR sf st ⟨key, mk []⟩ with
        | false => rfl
        | true => rw [h] at hk; exact absurd rfl hk
      rw [e3] at hhas
      rw [e3, if_neg (by simp)]
      refine pure_of (H' := H2.set H1.n (.cells [.string (mk []), .string (mk [])] T.api_Pair true)) ?_ (d_cursor_Cursor_Seek _ _ _ H) rfl fin
      simp (disch := first | with_reducible rfl | assumption | omega | rfl | (simp only [go_sem]; first | done | omega)) only [go_sem, ↓reduceIte, reduceCtorEq, Nat.reduceEqDiff, Nat.reduceAdd, Nat.reduceSub, Nat.reduceMul, Nat.reduceDiv, Nat.reduceMod, Nat.reduceLeDiff, Nat.reduceLT, Nat.reduceBEq, Int.reduceEq, Int.reduceBEq, Int.reduceBNe, Int.reduceLT, Int.reduceLE, Int.reduceAdd, Int.reduceSub, Int.reduceNeg, Int.reduceToNat, Int.reducePow, Nat.reducePow, Int.reduceMul, Int.reduceDiv, ↓s_cursor_Cursor_Seek, hH1, hH2, enterK_eq hz, mp_some, f21, bl_mk, decide_eq_false e1, decide_eq_false e2, h1, enterK_eq hhas, f2]

theorem q_Seek (b bm : Nat) (l : List Pr) (sf st key k : ByteArray) (side : Int) (H : AHeap) (ok : Ok H) (c : Cur H b sf st side k) (h0 : side ≠ 0) (hk : seekErr sf st key = 0) (r : Mdl H bm l) (hs : Srt l) (hl : l.length ≤ 20000) :
    ∃ w H', w = setC (l.filter (inR sf st)) (posP (l.filter (inR sf st)) key : Nat) 3 ∧ CC F.cursor_Cursor_Seek [.pointer (some ⟨b, 0, none⟩), .pointer (some ⟨bm, 0, none⟩), .string key] H = some (.tuple #[.agg #[.string w.1.key, .string w.1.value], .int .i64 w.2.1], H') ∧ Cur H' b sf st w.2.2.1 w.2.2.2 ∧ Fr (fun c => c = b) H H' := by
  generalize hH1 : H.push (.cells [.string key] T.string true) = H1
  have s1 : Still H H1 := by rw [← hH1]; exact (Fr.refl H).push _
  have n1 : H1.n = H.n + 1 := by rw [← hH1]; rfl
  have f1 : H1.f H.n = .cells [.string key] T.string true := by rw [← hH1]; exact push_f_eq rfl
  generalize hH2 : H1.push (.cells [.string (mk []), .string (mk [])] T.api_Pair true) = H2
  have s2 : Still H1 H2 := by rw [← hH2]; exact (Fr.refl H1).push _
  have n2 : H2.n = H1.n + 1 := by rw [← hH2]; rfl
  have f2 : H2.f H1.n = .cells [.string (mk []), .string (mk [])] T.api_Pair true := by rw [← hH2]; exact push_f_eq rfl
  have f21 : H2.f H.n = .cells [.string key] T.string true := by rw [s2.f (by omega) (fun h => h), f1]
  have c2 := (c.still s1).still s2
  have hz := q_zero b sf st k side H2 c2 h0
  have hb := c.2
  have h1 := c2.1
  have hhas := q_span_has sf st key H2
  have e1 : ¬ bl key = [] := fun h => by unfold seekErr at hk; rw [if_pos h] at hk; cases hk
  have e2 : ¬ 24 < ((bl key).length : Int) := fun h => by unfold seekErr at hk; rw [if_neg e1, if_pos h] at hk; cases hk
  have e3 : inR sf st ⟨key, mk []⟩ = true := by
    unfold seekErr at hk
    rw [if_neg e1, if_neg e2] at hk
    cases h : inR sf st ⟨key, mk []⟩ with
    | true => rfl
    | false => rw [h] at hk; cases hk
  rw [e3] at hhas
  obtain ⟨v, H3, hp, ho, s3, hn3⟩ := q_span_pairs bm l sf st H2 ((r.still s1).still s2) hs hl
  have n3 : H2.n ≤ H3.n := s3.n
  have hone := ho.cell
  generalize hH4 : (H3.push (.cells [.slice none 0 0] T.sl_api_Pair true)).set H3.n (.cells [v] T.sl_api_Pair true) = H4
  have s4 : Still H3 H4 := by rw [← hH4]; exact Fr.set ((Fr.refl H3).push _) _ _ (fun h => by omega)
  have n4 : H4.n = H3.n + 1 := by rw [← hH4]; rfl
  have f4 : H4.f H3.n = .cells [v] T.sl_api_Pair true := by rw [← hH4]; exact set_f_eq
  have f4k : H4.f H.n = .cells [.string key] T.string true := by rw [s4.f (by omega) (fun h => h), s3.f (by omega) (fun h => h), f21]
  have f4p : H4.f H1.n = .cells [.string (mk []), .string (mk [])] T.api_Pair true := by rw [s4.f (by omega) (fun h => h), s3.f (by omega) (fun h => h), f2]
  have c4 := (c2.still s3).still s4
  have hsR := srt_filter hs (inR sf st)
  have hlR := len_filter hl (inR sf st)
  generalize l.filter (inR sf st) = R at ho hsR hlR ⊢
  have ho4 := ho.still s4
  have hlen := ho4.rd.lenS
  have ok4 : Ok H4 := (((ok.fr s1).fr s2).fr s3).fr s4
  obtain ⟨_, p1, p2⟩ := posP_pos hsR key
  have hq := q_Search (.func (.func F.cursor_Cursor_Seek_1) #[] #[.pointer (some ⟨H3.n, 0, none⟩), .pointer (some ⟨H.n, 0, none⟩)]) R.length (posP R key) (fun j => if h : j < R.length then !decide (cmpS R[j].key key < 0) else true) H4 (by omega) (posP_le R key)
    (fun j hj => by have hjl : j < R.length := by have := posP_le R key; omega
                    rw [dif_pos hjl, decide_eq_true (p1 j hjl hj)]; rfl) (fun j hj hp => by rw [dif_pos hj, decide_eq_false (p2 j hj hp)]; rfl)
    (fun j k hj => by rw [c_cursor_Cursor_Seek_1, dif_pos hj]; exact enterK_eq (q_Seek_1 R _ key H3.n H.n j H4 f4 f4k ho4.rd hj))
  have nb : blockOf v ≠ some b := fun h => by have := hn3 b h; omega
  obtain ⟨H5, hset, c5, fr5⟩ := q_set42 b R v (posP R key : Nat) 3 sf st k side H4 ok4 c4 ho4.rd nb hlR
  generalize hw : setC R (posP R key : Nat) 3 = w at *
  have st4 : Still H H4 := ((s1.then s2 fun _ _ h => h).still.then s3 fun _ _ h => h).still.then s4 fun _ _ h => h
  have fr : Fr (fun c => c = b) H H5 := st4.still.then fr5 fun c _ h => h
  have f5 : H5.f H1.n = .cells [.string (mk []), .string (mk [])] T.api_Pair true := by rw [fr5.f (by omega) (by omega), f4p]
  generalize hH6 : H5.set H1.n (.cells [.string w.1.key, .string w.1.value] T.api_Pair true) = H6
  have f6n : H6.f H1.n = .cells [.string w.1.key, .string w.1.value] T.api_Pair true := by rw [← hH6]; exact set_f_eq
  have c6 : Cur H6 b sf st w.2.2.1 w.2.2.2 := ⟨by rw [← hH6, set_f_ne (by omega)]; exact c5.1, by rw [← hH6]; exact c5.2⟩
  have fr6 : Fr (fun c => c = b) H H6 := by rw [← hH6]; exact Fr.set fr _ _ fun h => by omega
  obtain ⟨H7, hx, c7, fr7⟩ := Cur.tidied (v := .tuple #[.agg #[.string w.1.key, .string w.1.value], .int .i64 w.2.1]) ok c c6 fr6
  refine ⟨w, H7, rfl, (d_cursor_Cursor_Seek _ _ _ H (r := (.tuple #[.agg #[.string w.1.key, .string w.1.value], .int .i64 w.2.1], H6)) ?_).trans (congrArg some hx), c7, fr7⟩
  simp (disch := first | with_reducible rfl | assumption | omega | rfl | (simp only [go_sem]; first | done | omega)) only [go_sem, ↓reduceIte, reduceCtorEq, Nat.reduceEqDiff, Nat.reduceAdd, Nat.reduceSub, Nat.reduceMul, Nat.reduceDiv, Nat.reduceMod, Nat.reduceLeDiff, Nat.reduceLT, Nat.reduceBEq, Int.reduceEq, Int.reduceBEq, Int.reduceBNe, Int.reduceLT, Int.reduceLE, Int.reduceAdd, Int.reduceSub, Int.reduceNeg, Int.reduceToNat, Int.reducePow, Nat.reducePow, Int.reduceMul, Int.reduceDiv, ↓s_cursor_Cursor_Seek, hH1, hH2, enterK_eq hz, mp_some, f21, bl_mk, decide_eq_false e1, decide_eq_false e2, h1, enterK_eq hhas, enterK_eq hp, hH4, f4, hlen, enterK_eq hq, enterK_eq hset, f5, hH6, f6n]

end Go.Proofs.Ytmbppjilnnjdaaa

/-
  Chapter 42: the law's own cursor: in, list, rest.
  Conditions: none. By an AI agent.
-/
set_option maxRecDepth 10000
set_option linter.unusedSimpArgs false
set_option linter.unusedVariables false
namespace Go.Proofs.Ytmbppjilnnjdaaa
open Go Eng

/-- The law's cursor. -/
def ModL (H : AHeap) (b : Nat) (sf st key : ByteArray) (side : Int) : Prop := H.f b = .cells [.string sf, .string st, .string key, .int .i64 side] T.law_Model true ∧ b < H.n
theorem ModL.still {H H' : AHeap} {b : Nat} {sf st key : ByteArray} {side : Int} (c : ModL H b sf st key side) (s : Still H H') : ModL H' b sf st key side := ⟨by rw [s.f c.2 (fun h => h), c.1], Nat.lt_of_lt_of_le c.2 s.n⟩

theorem q_in (b : Nat) (sf st k key : ByteArray) (side : Int) (a : Pr) (H : AHeap) (c : ModL H b sf st k side) : CC F.law_Model_in [.pointer (some ⟨b, 0, none⟩), .string a.key] H = some (.bool (inR sf st a), H) := by
  have h0 := c.1
  unfold inR
  by_cases h1 : cmpS a.key sf < 0
  · rw [decide_eq_true h1]
    apply pure_of _ (d_law_Model_in _ _ H) rfl
    rotate_left 2
    · simp (disch := first | with_reducible rfl | assumption | omega | rfl | (simp only [go_sem]; first | done | omega)) only [go_sem, ↓reduceIte, reduceCtorEq, Nat.reduceEqDiff, Nat.reduceAdd, Nat.reduceSub, Nat.reduceMul, Nat.reduceDiv, Nat.reduceMod, Nat.reduceLeDiff, Nat.reduceLT, Nat.reduceBEq, Int.reduceEq, Int.reduceBEq, Int.reduceBNe, Int.reduceLT, Int.reduceLE, Int.reduceAdd, Int.reduceSub, Int.reduceNeg, Int.reduceToNat, Int.reducePow, Nat.reducePow, Int.reduceMul, Int.reduceDiv, ↓s_law_Model_in, h0, less_cmpS, decide_eq_true h1]
      rfl
    · (repeat (first | exact Fr.refl _ | refine Fr.push ?_ _ | refine Fr.set ?_ _ _ (by intro h; first | omega | (simp only [go_sem] at h; omega))))
  · rw [decide_eq_false h1]
    by_cases h2 : bl st = []
    · rw [decide_eq_true h2]
      apply pure_of _ (d_law_Model_in _ _ H) rfl
      rotate_left 2
      · simp (disch := first | with_reducible rfl | assumption | omega | rfl | (simp only [go_sem]; first | done | omega)) only [go_sem, ↓reduceIte, reduceCtorEq, Nat.reduceEqDiff, Nat.reduceAdd, Nat.reduceSub, Nat.reduceMul, Nat.reduceDiv, Nat.reduceMod, Nat.reduceLeDiff, Nat.reduceLT, Nat.reduceBEq, Int.reduceEq, Int.reduceBEq, Int.reduceBNe, Int.reduceLT, Int.reduceLE, Int.reduceAdd, Int.reduceSub, Int.reduceNeg, Int.reduceToNat, Int.reducePow, Nat.reducePow, Int.reduceMul, Int.reduceDiv, ↓s_law_Model_in, h0, less_cmpS, decide_eq_false h1, bl_mk, decide_eq_true h2]
        rfl
      · (repeat (first | exact Fr.refl _ | refine Fr.push ?_ _ | refine Fr.set ?_ _ _ (by intro h; first | omega | (simp only [go_sem] at h; omega))))
    · rw [decide_eq_false h2]
      apply pure_of _ (d_law_Model_in _ _ H) rfl
      rotate_left 2
      · simp (disch := first | with_reducible rfl | assumption | omega | rfl | (simp only [go_sem]; first | done | omega)) only [go_sem, ↓reduceIte, reduceCtorEq, Nat.reduceEqDiff, Nat.reduceAdd, Nat.reduceSub, Nat.reduceMul, Nat.reduceDiv, Nat.reduceMod, Nat.reduceLeDiff, Nat.reduceLT, Nat.reduceBEq, Int.reduceEq, Int.reduceBEq, Int.reduceBNe, Int.reduceLT, Int.reduceLE, Int.reduceAdd, Int.reduceSub, Int.reduceNeg, Int.reduceToNat, Int.reducePow, Nat.reducePow, Int.reduceMul, Int.reduceDiv, ↓s_law_Model_in, h0, less_cmpS, decide_eq_false h1, bl_mk, decide_eq_false h2]
        rfl
      · (repeat (first | exact Fr.refl _ | refine Fr.push ?_ _ | refine Fr.set ?_ _ _ (by intro h; first | omega | (simp only [go_sem] at h; omega))))

theorem l_list (b : Nat) (l : List Pr) (v : Value) (sf st k : ByteArray) (side : Int) (Hz : AHeap) (c : ModL Hz b sf st k side) (hr0 : Rd EPr Hz v l) (hl : l.length ≤ 20000) :
    ∀ (x : List Pr) (i : Nat) (H : AHeap) (o : Value) (acc : List Pr), l.drop i = x → Still Hz H → Own EPr H T.api_Pair o acc → (∀ d, blockOf o = some d → Hz.n ≤ d) → i ≤ l.length → acc.length ≤ i → ∃ o' H', Still Hz H' ∧ Own EPr H' T.api_Pair o' (acc ++ x.filter (inR sf st)) ∧ (∀ d, blockOf o' = some d → Hz.n ≤ d) ∧ ∀ K : K,
    l_law_Model_list_0 (.pointer (some ⟨b, 0, none⟩)) o v (.int .i64 i) H (blkK [5] 0 K) = K .normal [(5, o')] H'
  | [], i, H, o, acc, hx, hs, ho, hob, hi, hacc => by
    have h : l.length ≤ i := List.drop_eq_nil_iff.1 hx
    have hlt : ¬ (i : Int) < (l.length : Int) := by omega
    have hlen := hr0.lenS
    refine ⟨o, H, hs, by simpa using ho, hob, fun K => ?_⟩
    rw [r_law_Model_list_0]
    simp (disch := first | with_reducible rfl | assumption | omega | rfl | (simp only [go_sem]; first | done | omega)) only [go_sem, ↓reduceIte, reduceCtorEq, Nat.reduceEqDiff, Nat.reduceAdd, Nat.reduceSub, Nat.reduceMul, Nat.reduceDiv, Nat.reduceMod, Nat.reduceLeDiff, Nat.reduceLT, Nat.reduceBEq, Int.reduceEq, Int.reduceBEq, Int.reduceBNe, Int.reduceLT, Int.reduceLE, Int.reduceAdd, Int.reduceSub, Int.reduceNeg, Int.reduceToNat, Int.reducePow, Nat.reducePow, Int.reduceMul, Int.reduceDiv, ↓s_law_Model_list_b0, hlen, hlt]
  | a :: x, i, H, o, acc, hx, hs, ho, hob, hi, hacc => by
    obtain ⟨h, hxa, hx'⟩ := drop_cons hx
    have hlt : (i : Int) < (l.length : Int) := by omega
    have hlen := hr0.lenS
    obtain ⟨b1, o1, hix1, hb1, hc1, _⟩ := (hr0.still hs).ix (q := .i64) h
    rw [hxa] at hc1
    have hix1 : ixS 2 v (.int .i64 i) = some (.pointer (some ⟨b1, o1, none⟩)) := hix1
    have hck : cellB (H.f b1) o1 = some (.string a.key) := cutB_cell hc1 (i := 0) (by decide)
    have hc1 : cutB (H.f b1) o1 2 = some [.string a.key, .string a.value] := hc1
    have hin0 := q_in b sf st k a.key side a H (c.still hs)
    cases hin : inR sf st a with
    | true =>
      rw [hin] at hin0
      generalize hH1 : H.push (.cells [.string a.key, .string a.value] T.api_Pair true) = H1
      have s1 : Still H H1 := by rw [← hH1]; exact (Fr.refl H).push _
      have n1 : H1.n = H.n + 1 := by rw [← hH1]; rfl
      have hlit := rdLit a H
      rw [hH1] at hlit
      have n0 : Hz.n ≤ H.n := hs.n
      obtain ⟨o', H2, happ, ho2, fr2, hb2⟩ := (ho.still s1).appE (m := [a]) (sz := 2) (bytes := 32) rfl (by simp; omega) (by simp; omega) (hlit.src (sz := 2) rfl)
      have hob' : ∀ d, blockOf o' = some d → Hz.n ≤ d := fun d hd => by
        rcases hb2 with hb | hb
        · rw [hb] at hd; exact hob d hd
        · rw [hb] at hd; cases hd; omega
      have s2 : Still Hz H2 := (hs.then s1 fun _ _ h => h).still.then fr2 fun d hd h => by have := hob d h; omega
      obtain ⟨o'', H', q1, q2, q3, ih⟩ := l_list b l v sf st k side Hz c hr0 hl x (i + 1) H2 o' (acc ++ [a]) hx' s2 ho2 hob' h (by simp; omega)
      refine ⟨o'', H', q1, by rw [List.filter_cons_of_pos hin]; simpa using q2, q3, fun K => ?_⟩
      have ih := ih K
      rw [Int.natCast_add] at ih
      rw [r_law_Model_list_0]
      simp (disch := first | with_reducible rfl | assumption | omega | rfl | (simp only [go_sem]; first | done | omega)) only [go_sem, ↓reduceIte, reduceCtorEq, Nat.reduceEqDiff, Nat.reduceAdd, Nat.reduceSub, Nat.reduceMul, Nat.reduceDiv, Nat.reduceMod, Nat.reduceLeDiff, Nat.reduceLT, Nat.reduceBEq, Int.reduceEq, Int.reduceBEq, Int.reduceBNe, Int.reduceLT, Int.reduceLE, Int.reduceAdd, Int.reduceSub, Int.reduceNeg, Int.reduceToNat, Int.reducePow, Nat.reducePow, Int.reduceMul, Int.reduceDiv, ↓s_law_Model_list_b0, hlen, hlt, hix1, hck, enterK_eq hin0, hc1, hH1, happ]
      exact ih
    | false =>
      rw [hin] at hin0
      obtain ⟨o'', H', q1, q2, q3, ih⟩ := l_list b l v sf st k side Hz c hr0 hl x (i + 1) H o acc hx' hs ho hob h (by omega)
      refine ⟨o'', H', q1, by rw [List.filter_cons_of_neg (by simp [hin])]; exact q2, q3, fun K => ?_⟩
      have ih := ih K
      rw [Int.natCast_add] at ih
      rw [r_law_Model_list_0]
      simp (disch := first | with_reducible rfl | assumption | omega | rfl | (simp only [go_sem]; first | done | omega)) only [go_sem, ↓reduceIte, reduceCtorEq, Nat.reduceEqDiff, Nat.reduceAdd, Nat.reduceSub, Nat.reduceMul, Nat.reduceDiv, Nat.reduceMod, Nat.reduceLeDiff, Nat.reduceLT, Nat.reduceBEq, Int.reduceEq, Int.reduceBEq, Int.reduceBNe, Int.reduceLT, Int.reduceLE, Int.reduceAdd, Int.reduceSub, Int.reduceNeg, Int.reduceToNat, Int.reducePow, Nat.reducePow, Int.reduceMul, Int.reduceDiv, ↓s_law_Model_list_b0, hlen, hlt, hix1, hck, enterK_eq hin0]
      exact ih

theorem q_list (b bm : Nat) (l : List Pr) (sf st k : ByteArray) (side : Int) (H : AHeap) (c : ModL H b sf st k side) (r : Mdl H bm l) (hl : l.length ≤ 20000) :
    ∃ v' H', CC F.law_Model_list [.pointer (some ⟨b, 0, none⟩), .pointer (some ⟨bm, 0, none⟩)] H = some (v', H') ∧ Own EPr H' T.api_Pair v' (l.filter (inR sf st)) ∧ Still H H' ∧ New H v' := by
  obtain ⟨v, H1, hp, ho, s1, hn1⟩ := q_Pairs bm l H r (by omega)
  obtain ⟨o, H', hs, ho', hob, hloop⟩ := l_list b l v sf st k side H1 (c.still s1) ho.rd hl l 0 H1 (.slice none 0 0) [] rfl (Fr.refl H1) Eng.Own.nil (fun c h => by cases h) (by omega) (by simp)
  have n1 : H.n ≤ H1.n := s1.n
  obtain ⟨H'', h⟩ := own_tidied ho' (s1.still.then hs fun _ _ h => h) (fun d hd => by have := hob d hd; omega) (d_law_Model_list (.pointer (some ⟨b, 0, none⟩)) (.pointer (some ⟨bm, 0, none⟩)) H (r := (o, H')) (by
    have := ho'.cell
    simp (disch := first | with_reducible rfl | assumption | omega | rfl | (simp only [go_sem]; first | done | omega)) only [go_sem, ↓reduceIte, reduceCtorEq, Nat.reduceEqDiff, Nat.reduceAdd, Nat.reduceSub, Nat.reduceMul, Nat.reduceDiv, Nat.reduceMod, Nat.reduceLeDiff, Nat.reduceLT, Nat.reduceBEq, Int.reduceEq, Int.reduceBEq, Int.reduceBNe, Int.reduceLT, Int.reduceLE, Int.reduceAdd, Int.reduceSub, Int.reduceNeg, Int.reduceToNat, Int.reducePow, Nat.reducePow, Int.reduceMul, Int.reduceDiv, ↓s_law_Model_list, enterK_eq hp]
    refine (hloop _).trans ?_
    simp (disch := first | with_reducible rfl | assumption | omega | rfl | (simp only [go_sem]; first | done | omega)) only [go_sem, ↓reduceIte, reduceCtorEq, Nat.reduceEqDiff, Nat.reduceAdd, Nat.reduceSub, Nat.reduceMul, Nat.reduceDiv, Nat.reduceMod, Nat.reduceLeDiff, Nat.reduceLT, Nat.reduceBEq, Int.reduceEq, Int.reduceBEq, Int.reduceBNe, Int.reduceLT, Int.reduceLE, Int.reduceAdd, Int.reduceSub, Int.reduceNeg, Int.reduceToNat, Int.reducePow, Nat.reducePow, Int.reduceMul, Int.reduceDiv]))
  exact ⟨o, H'', h⟩

end Go.Proofs.Ytmbppjilnnjdaaa

/-
  Chapter 42: the law's own cursor: rest.
  Conditions: none. By an AI agent.
-/
set_option maxRecDepth 10000
set_option linter.unusedSimpArgs false
set_option linter.unusedVariables false
namespace Go.Proofs.Ytmbppjilnnjdaaa
open Go Eng

/-- What comes. -/
def restK (side : Int) (k : ByteArray) (a : Pr) : Bool := decide (side < 0) || (decide (side = 0) && !decide (cmpS a.key k ≤ 0))

theorem l_rest (b : Nat) (l : List Pr) (v : Value) (sf st k : ByteArray) (side : Int) (Hz : AHeap) (c : ModL Hz b sf st k side) (hr0 : Rd EPr Hz v l) (hl : l.length ≤ 20000) :
    ∀ (x : List Pr) (i : Nat) (H : AHeap) (o : Value) (acc : List Pr), l.drop i = x → Still Hz H → Own EPr H T.api_Pair o acc → (∀ d, blockOf o = some d → Hz.n ≤ d) → i ≤ l.length → acc.length ≤ i → ∃ o' H', Still Hz H' ∧ Own EPr H' T.api_Pair o' (acc ++ x.filter (restK side k)) ∧ (∀ d, blockOf o' = some d → Hz.n ≤ d) ∧ ∀ K : K,
    l_law_Model_rest_0 (.pointer (some ⟨b, 0, none⟩)) o v (.int .i64 i) H (blkK [5] 0 K) = K .normal [(5, o')] H'
  | [], i, H, o, acc, hx, hs, ho, hob, hi, hacc => by
    have h : l.length ≤ i := List.drop_eq_nil_iff.1 hx
    have hlt : ¬ (i : Int) < (l.length : Int) := by omega
    have hlen := hr0.lenS
    refine ⟨o, H, hs, by simpa using ho, hob, fun K => ?_⟩
    rw [r_law_Model_rest_0]
    simp (disch := first | with_reducible rfl | assumption | omega | rfl | (simp only [go_sem]; first | done | omega)) only [go_sem, ↓reduceIte, reduceCtorEq, Nat.reduceEqDiff, Nat.reduceAdd, Nat.reduceSub, Nat.reduceMul, Nat.reduceDiv, Nat.reduceMod, Nat.reduceLeDiff, Nat.reduceLT, Nat.reduceBEq, Int.reduceEq, Int.reduceBEq, Int.reduceBNe, Int.reduceLT, Int.reduceLE, Int.reduceAdd, Int.reduceSub, Int.reduceNeg, Int.reduceToNat, Int.reducePow, Nat.reducePow, Int.reduceMul, Int.reduceDiv, ↓s_law_Model_rest_b0, hlen, hlt]
  | a :: x, i, H, o, acc, hx, hs, ho, hob, hi, hacc => by
    obtain ⟨h, hxa, hx'⟩ := drop_cons hx
    have hlt : (i : Int) < (l.length : Int) := by omega
    have hlen := hr0.lenS
    obtain ⟨b1, o1, hix1, hb1, hc1, _⟩ := (hr0.still hs).ix (q := .i64) h
    rw [hxa] at hc1
    have hix1 : ixS 2 v (.int .i64 i) = some (.pointer (some ⟨b1, o1, none⟩)) := hix1
    have hck : cellB (H.f b1) o1 = some (.string a.key) := cutB_cell hc1 (i := 0) (by decide)
    have hc1 : cutB (H.f b1) o1 2 = some [.string a.key, .string a.value] := hc1
    have hcm := (c.still hs).1
    cases hin : restK side k a with
    | true =>
      generalize hH1 : H.push (.cells [.string a.key, .string a.value] T.api_Pair true) = H1
      have s1 : Still H H1 := by rw [← hH1]; exact (Fr.refl H).push _
      have n1 : H1.n = H.n + 1 := by rw [← hH1]; rfl
      have hlit := rdLit a H
      rw [hH1] at hlit
      have n0 : Hz.n ≤ H.n := hs.n
      obtain ⟨o', H2, happ, ho2, fr2, hb2⟩ := (ho.still s1).appE (m := [a]) (sz := 2) (bytes := 32) rfl (by simp; omega) (by simp; omega) (hlit.src (sz := 2) rfl)
      have hob' : ∀ d, blockOf o' = some d → Hz.n ≤ d := fun d hd => by
        rcases hb2 with hb | hb
        · rw [hb] at hd; exact hob d hd
        · rw [hb] at hd; cases hd; omega
      have s2 : Still Hz H2 := (hs.then s1 fun _ _ h => h).still.then fr2 fun d hd h => by have := hob d h; omega
      obtain ⟨o'', H', q1, q2, q3, ih⟩ := l_rest b l v sf st k side Hz c hr0 hl x (i + 1) H2 o' (acc ++ [a]) hx' s2 ho2 hob' h (by simp; omega)
      refine ⟨o'', H', q1, by rw [List.filter_cons_of_pos hin]; simpa using q2, q3, fun K => ?_⟩
      have ih := ih K
      rw [Int.natCast_add] at ih
      rw [r_law_Model_rest_0]
      unfold restK at hin
      by_cases e1 : side < 0
      · simp (disch := first | with_reducible rfl | assumption | omega | rfl | (simp only [go_sem]; first | done | omega)) only [go_sem, ↓reduceIte, reduceCtorEq, Nat.reduceEqDiff, Nat.reduceAdd, Nat.reduceSub, Nat.reduceMul, Nat.reduceDiv, Nat.reduceMod, Nat.reduceLeDiff, Nat.reduceLT, Nat.reduceBEq, Int.reduceEq, Int.reduceBEq, Int.reduceBNe, Int.reduceLT, Int.reduceLE, Int.reduceAdd, Int.reduceSub, Int.reduceNeg, Int.reduceToNat, Int.reducePow, Nat.reducePow, Int.reduceMul, Int.reduceDiv, ↓s_law_Model_rest_b0, hlen, hlt, hcm, decide_eq_true e1, hix1, hc1, hH1, happ]
        exact ih
      · rw [decide_eq_false e1, Bool.false_or, Bool.and_eq_true] at hin
        have e2 : side = 0 := of_decide_eq_true hin.1
        have e3 := hin.2
        simp (disch := first | with_reducible rfl | assumption | omega | rfl | (simp only [go_sem]; first | done | omega)) only [go_sem, ↓reduceIte, reduceCtorEq, Nat.reduceEqDiff, Nat.reduceAdd, Nat.reduceSub, Nat.reduceMul, Nat.reduceDiv, Nat.reduceMod, Nat.reduceLeDiff, Nat.reduceLT, Nat.reduceBEq, Int.reduceEq, Int.reduceBEq, Int.reduceBNe, Int.reduceLT, Int.reduceLE, Int.reduceAdd, Int.reduceSub, Int.reduceNeg, Int.reduceToNat, Int.reducePow, Nat.reducePow, Int.reduceMul, Int.reduceDiv, ↓s_law_Model_rest_b0, hlen, hlt, hcm, decide_eq_false e1, decide_eq_true e2, hix1, hck, leq_cmpS, e3, hc1, hH1, happ]
        exact ih
    | false =>
      obtain ⟨o'', H', q1, q2, q3, ih⟩ := l_rest b l v sf st k side Hz c hr0 hl x (i + 1) H o acc hx' hs ho hob h (by omega)
      refine ⟨o'', H', q1, by rw [List.filter_cons_of_neg (by simp [hin])]; exact q2, q3, fun K => ?_⟩
      have ih := ih K
      rw [Int.natCast_add] at ih
      rw [r_law_Model_rest_0]
      unfold restK at hin
      rw [Bool.or_eq_false_iff] at hin
      have e1 : ¬ side < 0 := of_decide_eq_false hin.1
      by_cases e2 : side = 0
      · have e3 : (!decide (cmpS a.key k ≤ 0)) = false := by have := hin.2; rw [decide_eq_true e2, Bool.true_and] at this; exact this
        simp (disch := first | with_reducible rfl | assumption | omega | rfl | (simp only [go_sem]; first | done | omega)) only [go_sem, ↓reduceIte, reduceCtorEq, Nat.reduceEqDiff, Nat.reduceAdd, Nat.reduceSub, Nat.reduceMul, Nat.reduceDiv, Nat.reduceMod, Nat.reduceLeDiff, Nat.reduceLT, Nat.reduceBEq, Int.reduceEq, Int.reduceBEq, Int.reduceBNe, Int.reduceLT, Int.reduceLE, Int.reduceAdd, Int.reduceSub, Int.reduceNeg, Int.reduceToNat, Int.reducePow, Nat.reducePow, Int.reduceMul, Int.reduceDiv, ↓s_law_Model_rest_b0, hlen, hlt, hcm, decide_eq_false e1, decide_eq_true e2, hix1, hck, leq_cmpS, e3]
        exact ih
      · simp (disch := first | with_reducible rfl | assumption | omega | rfl | (simp only [go_sem]; first | done | omega)) only [go_sem, ↓reduceIte, reduceCtorEq, Nat.reduceEqDiff, Nat.reduceAdd, Nat.reduceSub, Nat.reduceMul, Nat.reduceDiv, Nat.reduceMod, Nat.reduceLeDiff, Nat.reduceLT, Nat.reduceBEq, Int.reduceEq, Int.reduceBEq, Int.reduceBNe, Int.reduceLT, Int.reduceLE, Int.reduceAdd, Int.reduceSub, Int.reduceNeg, Int.reduceToNat, Int.reducePow, Nat.reducePow, Int.reduceMul, Int.reduceDiv, ↓s_law_Model_rest_b0, hlen, hlt, hcm, decide_eq_false e1, decide_eq_false e2]
        exact ih

theorem q_rest (b bm : Nat) (l : List Pr) (sf st k : ByteArray) (side : Int) (H : AHeap) (c : ModL H b sf st k side) (r : Mdl H bm l) (hl : l.length ≤ 20000) :
    ∃ v' H', CC F.law_Model_rest [.pointer (some ⟨b, 0, none⟩), .pointer (some ⟨bm, 0, none⟩)] H = some (v', H') ∧ Own EPr H' T.api_Pair v' ((l.filter (inR sf st)).filter (restK side k)) ∧ Still H H' ∧ New H v' := by
  obtain ⟨v, H1, hp, ho, s1, hn1⟩ := q_list b bm l sf st k side H c r hl
  obtain ⟨o, H', hs, ho', hob, hloop⟩ := l_rest b _ v sf st k side H1 (c.still s1) ho.rd (len_filter hl _) _ 0 H1 (.slice none 0 0) [] rfl (Fr.refl H1) Eng.Own.nil (fun c h => by cases h) (by omega) (by simp)
  have n1 : H.n ≤ H1.n := s1.n
  obtain ⟨H'', h⟩ := own_tidied ho' (s1.still.then hs fun _ _ h => h) (fun d hd => by have := hob d hd; omega) (d_law_Model_rest (.pointer (some ⟨b, 0, none⟩)) (.pointer (some ⟨bm, 0, none⟩)) H (r := (o, H')) (by
    have := ho'.cell
    simp (disch := first | with_reducible rfl | assumption | omega | rfl | (simp only [go_sem]; first | done | omega)) only [go_sem, ↓reduceIte, reduceCtorEq, Nat.reduceEqDiff, Nat.reduceAdd, Nat.reduceSub, Nat.reduceMul, Nat.reduceDiv, Nat.reduceMod, Nat.reduceLeDiff, Nat.reduceLT, Nat.reduceBEq, Int.reduceEq, Int.reduceBEq, Int.reduceBNe, Int.reduceLT, Int.reduceLE, Int.reduceAdd, Int.reduceSub, Int.reduceNeg, Int.reduceToNat, Int.reducePow, Nat.reducePow, Int.reduceMul, Int.reduceDiv, ↓s_law_Model_rest, enterK_eq hp]
    refine (hloop _).trans ?_
    simp (disch := first | with_reducible rfl | assumption | omega | rfl | (simp only [go_sem]; first | done | omega)) only [go_sem, ↓reduceIte, reduceCtorEq, Nat.reduceEqDiff, Nat.reduceAdd, Nat.reduceSub, Nat.reduceMul, Nat.reduceDiv, Nat.reduceMod, Nat.reduceLeDiff, Nat.reduceLT, Nat.reduceBEq, Int.reduceEq, Int.reduceBEq, Int.reduceBNe, Int.reduceLT, Int.reduceLE, Int.reduceAdd, Int.reduceSub, Int.reduceNeg, Int.reduceToNat, Int.reducePow, Nat.reducePow, Int.reduceMul, Int.reduceDiv]))
  exact ⟨o, H'', h⟩

end Go.Proofs.Ytmbppjilnnjdaaa

/-
  Chapter 42: the law's own cursor: to.
  Conditions: none. By an AI agent.
-/
set_option maxRecDepth 10000
set_option linter.unusedSimpArgs false
set_option linter.unusedVariables false
namespace Go.Proofs.Ytmbppjilnnjdaaa
open Go Eng

/-- Where the law's cursor goes: the pair, the error, the key, the side. -/
def toM (o : Option Pr) (e : Int) : Pr × Int × ByteArray × Int := match o with | some a => (a, 0, a.key, 0) | none => (⟨mk [], mk []⟩, 17, mk [], e)

theorem ModL.tidied {H H4 : AHeap} {b : Nat} {sf st key key' : ByteArray} {side side' : Int} {v : Value} (ok : Ok H) (c : ModL H b sf st key side) (c4 : ModL H4 b sf st key' side') (fr4 : Fr (fun c => c = b) H H4) :
    ∃ H5, tidy H (v, H4) = (v, H5) ∧ ModL H5 b sf st key' side' ∧ Fr (fun c => c = b) H H5 := by
  have hb2 := c.2
  unfold tidy
  split
  · rename_i hg
    simp only [Bool.and_eq_true] at hg
    refine ⟨H, rfl, ⟨?_, hb2⟩, Fr.refl H⟩
    rcases fr4.old b hb2 with h | ⟨h, _⟩
    · rw [← h.2]; exact c4.1
    · have := List.all_eq_true.1 hg.2 b (by simpa using hb2)
      have := ok b
      simp at *
      omega
  · exact ⟨H4, rfl, c4, fr4⟩

theorem q_to_some (b : Nat) (a : Pr) (e : Int) (sf st key : ByteArray) (side : Int) (H : AHeap) (ok : Ok H) (c : ModL H b sf st key side) :
    ∃ H', CC F.law_Model_to [.pointer (some ⟨b, 0, none⟩), .agg #[.string a.key, .string a.value], .bool true, .int .i64 e] H = some (.tuple #[.agg #[.string a.key, .string a.value], .int .i64 0], H') ∧ ModL H' b sf st a.key 0 ∧ Fr (fun c => c = b) H H' := by
  have hb := c.2
  generalize hH1 : H.push (.cells [.string a.key, .string a.value] T.api_Pair true) = H1
  have s1 : Still H H1 := by rw [← hH1]; exact (Fr.refl H).push _
  have n1 : H1.n = H.n + 1 := by rw [← hH1]; rfl
  have f1 : H1.f H.n = .cells [.string a.key, .string a.value] T.api_Pair true := by rw [← hH1]; exact push_f_eq rfl
  generalize hH2 : H1.push (.cells [.string (mk []), .string (mk [])] T.api_Pair true) = H2
  have s2 : Still H1 H2 := by rw [← hH2]; exact (Fr.refl H1).push _
  have n2 : H2.n = H1.n + 1 := by rw [← hH2]; rfl
  have f2 : H2.f H1.n = .cells [.string (mk []), .string (mk [])] T.api_Pair true := by rw [← hH2]; exact push_f_eq rfl
  have f21 : H2.f H.n = .cells [.string a.key, .string a.value] T.api_Pair true := by rw [s2.f (by omega) (fun h => h), f1]
  have c2 := (c.still s1).still s2
  have h2 := c2.1
  generalize hH3 : H2.set b (.cells [.string sf, .string st, .string a.key, .int .i64 side] T.law_Model true) = H3
  generalize hH4 : H3.set b (.cells [.string sf, .string st, .string a.key, .int .i64 0] T.law_Model true) = H4
  have f3 : H3.f b = .cells [.string sf, .string st, .string a.key, .int .i64 side] T.law_Model true := by rw [← hH3]; exact set_f_eq
  have f4 : H4.f b = .cells [.string sf, .string st, .string a.key, .int .i64 0] T.law_Model true := by rw [← hH4]; exact set_f_eq
  have f4a : H4.f H.n = .cells [.string a.key, .string a.value] T.api_Pair true := by rw [← hH4, set_f_ne (by omega), ← hH3, set_f_ne (by omega), f21]
  have f4p : H4.f H1.n = .cells [.string (mk []), .string (mk [])] T.api_Pair true := by rw [← hH4, set_f_ne (by omega), ← hH3, set_f_ne (by omega), f2]
  have st2 : Still H H2 := s1.still.then s2 fun _ _ h => h
  have fr4 : Fr (fun c => c = b) H H4 := by rw [← hH4, ← hH3]; exact Fr.set (S := fun c => c = b) (Fr.set (S := fun c => c = b) st2.still b _ fun _ => rfl) b _ fun _ => rfl
  generalize hH5 : H4.set H1.n (.cells [.string a.key, .string a.value] T.api_Pair true) = H5
  have f5 : H5.f H1.n = .cells [.string a.key, .string a.value] T.api_Pair true := by rw [← hH5]; exact set_f_eq
  have fr5 : Fr (fun c => c = b) H H5 := by rw [← hH5]; exact Fr.set fr4 _ _ fun h => by omega
  have c5 : ModL H5 b sf st a.key 0 := ⟨by rw [← hH5, set_f_ne (by omega), f4], Nat.lt_of_lt_of_le hb fr5.n⟩
  obtain ⟨H6, hx, c6, fr6⟩ := ModL.tidied (v := .tuple #[.agg #[.string a.key, .string a.value], .int .i64 0]) ok c c5 fr5
  refine ⟨H6, (d_law_Model_to _ _ _ _ H (r := (.tuple #[.agg #[.string a.key, .string a.value], .int .i64 0], H5)) ?_).trans (congrArg some hx), c6, fr6⟩
  simp (disch := first | with_reducible rfl | assumption | omega | rfl | (simp only [go_sem]; first | done | omega)) only [go_sem, ↓reduceIte, reduceCtorEq, Nat.reduceEqDiff, Nat.reduceAdd, Nat.reduceSub, Nat.reduceMul, Nat.reduceDiv, Nat.reduceMod, Nat.reduceLeDiff, Nat.reduceLT, Nat.reduceBEq, Int.reduceEq, Int.reduceBEq, Int.reduceBNe, Int.reduceLT, Int.reduceLE, Int.reduceAdd, Int.reduceSub, Int.reduceNeg, Int.reduceToNat, Int.reducePow, Nat.reducePow, Int.reduceMul, Int.reduceDiv, ↓s_law_Model_to, hH1, hH2, f21, h2, hH3, f3, hH4, f4a, f4p, hH5, f5]

theorem q_to_none (b : Nat) (e : Int) (sf st key : ByteArray) (side : Int) (H : AHeap) (ok : Ok H) (c : ModL H b sf st key side) :
    ∃ H', CC F.law_Model_to [.pointer (some ⟨b, 0, none⟩), .agg #[.string (mk []), .string (mk [])], .bool false, .int .i64 e] H = some (.tuple #[.agg #[.string (mk []), .string (mk [])], .int .i64 17], H') ∧ ModL H' b sf st (mk []) e ∧ Fr (fun c => c = b) H H' := by
  have hb := c.2
  generalize hH1 : H.push (.cells [.string (mk []), .string (mk [])] T.api_Pair true) = H1
  have s1 : Still H H1 := by rw [← hH1]; exact (Fr.refl H).push _
  have n1 : H1.n = H.n + 1 := by rw [← hH1]; rfl
  generalize hH2 : H1.push (.cells [.string (mk []), .string (mk [])] T.api_Pair true) = H2
  have s2 : Still H1 H2 := by rw [← hH2]; exact (Fr.refl H1).push _
  have n2 : H2.n = H1.n + 1 := by rw [← hH2]; rfl
  have f2 : H2.f H1.n = .cells [.string (mk []), .string (mk [])] T.api_Pair true := by rw [← hH2]; exact push_f_eq rfl
  have c2 := (c.still s1).still s2
  have h2 := c2.1
  generalize hH3 : H2.set b (.cells [.string sf, .string st, .string (mk []), .int .i64 side] T.law_Model true) = H3
  generalize hH4 : H3.set b (.cells [.string sf, .string st, .string (mk []), .int .i64 e] T.law_Model true) = H4
  have f3 : H3.f b = .cells [.string sf, .string st, .string (mk []), .int .i64 side] T.law_Model true := by rw [← hH3]; exact set_f_eq
  have f4 : H4.f b = .cells [.string sf, .string st, .string (mk []), .int .i64 e] T.law_Model true := by rw [← hH4]; exact set_f_eq
  have f4p : H4.f H1.n = .cells [.string (mk []), .string (mk [])] T.api_Pair true := by rw [← hH4, set_f_ne (by omega), ← hH3, set_f_ne (by omega), f2]
  have st2 : Still H H2 := s1.still.then s2 fun _ _ h => h
  have fr4 : Fr (fun c => c = b) H H4 := by rw [← hH4, ← hH3]; exact Fr.set (S := fun c => c = b) (Fr.set (S := fun c => c = b) st2.still b _ fun _ => rfl) b _ fun _ => rfl
  generalize hH5 : H4.set H1.n (.cells [.string (mk []), .string (mk [])] T.api_Pair true) = H5
  have f5 : H5.f H1.n = .cells [.string (mk []), .string (mk [])] T.api_Pair true := by rw [← hH5]; exact set_f_eq
  have fr5 : Fr (fun c => c = b) H H5 := by rw [← hH5]; exact Fr.set fr4 _ _ fun h => by omega
  have c5 : ModL H5 b sf st (mk []) e := ⟨by rw [← hH5, set_f_ne (by omega), f4], Nat.lt_of_lt_of_le hb fr5.n⟩
  obtain ⟨H6, hx, c6, fr6⟩ := ModL.tidied (v := .tuple #[.agg #[.string (mk []), .string (mk [])], .int .i64 17]) ok c c5 fr5
  refine ⟨H6, (d_law_Model_to _ _ _ _ H (r := (.tuple #[.agg #[.string (mk []), .string (mk [])], .int .i64 17], H5)) ?_).trans (congrArg some hx), c6, fr6⟩
  simp (disch := first | with_reducible rfl | assumption | omega | rfl | (simp only [go_sem]; first | done | omega)) only [go_sem, ↓reduceIte, reduceCtorEq, Nat.reduceEqDiff, Nat.reduceAdd, Nat.reduceSub, Nat.reduceMul, Nat.reduceDiv, Nat.reduceMod, Nat.reduceLeDiff, Nat.reduceLT, Nat.reduceBEq, Int.reduceEq, Int.reduceBEq, Int.reduceBNe, Int.reduceLT, Int.reduceLE, Int.reduceAdd, Int.reduceSub, Int.reduceNeg, Int.reduceToNat, Int.reducePow, Nat.reducePow, Int.reduceMul, Int.reduceDiv, ↓s_law_Model_to, hH1, hH2, h2, hH3, f3, hH4, f4p, hH5, f5]

end Go.Proofs.Ytmbppjilnnjdaaa

/-
  Chapter 42: the law's own cursor: next.
  Conditions: none. By an AI agent.
-/
set_option maxRecDepth 10000
set_option linter.unusedSimpArgs false
set_option linter.unusedVariables false
namespace Go.Proofs.Ytmbppjilnnjdaaa
open Go Eng

theorem q_to (b : Nat) (o : Option Pr) (e : Int) (sf st key : ByteArray) (side : Int) (H : AHeap) (ok : Ok H) (c : ModL H b sf st key side) :
    ∃ H', CC F.law_Model_to [.pointer (some ⟨b, 0, none⟩), .agg #[.string (toM o e).1.key, .string (toM o e).1.value], .bool o.isSome, .int .i64 e] H = some (.tuple #[.agg #[.string (toM o e).1.key, .string (toM o e).1.value], .int .i64 (toM o e).2.1], H') ∧ ModL H' b sf st (toM o e).2.2.1 (toM o e).2.2.2 ∧ Fr (fun c => c = b) H H' := by
  cases o with
  | none => exact q_to_none b e sf st key side H ok c
  | some a => exact q_to_some b a e sf st key side H ok c

theorem q_next (b bm : Nat) (l : List Pr) (sf st key : ByteArray) (side : Int) (H : AHeap) (ok : Ok H) (c : ModL H b sf st key side) (r : Mdl H bm l) (hl : l.length ≤ 20000) :
    ∃ w H', w = toM (((l.filter (inR sf st)).filter (restK side key)).head?) 1 ∧ CC F.law_Model_next [.pointer (some ⟨b, 0, none⟩), .pointer (some ⟨bm, 0, none⟩)] H = some (.tuple #[.agg #[.string w.1.key, .string w.1.value], .int .i64 w.2.1], H') ∧ ModL H' b sf st w.2.2.1 w.2.2.2 ∧ Fr (fun c => c = b) H H' := by
  have hb := c.2
  generalize hH1 : H.push (.cells [.string (mk []), .string (mk [])] T.api_Pair true) = H1
  have s1 : Still H H1 := by rw [← hH1]; exact (Fr.refl H).push _
  have n1 : H1.n = H.n + 1 := by rw [← hH1]; rfl
  have f1 : H1.f H.n = .cells [.string (mk []), .string (mk [])] T.api_Pair true := by rw [← hH1]; exact push_f_eq rfl
  obtain ⟨v, H2, hr, ho, s2, _⟩ := q_rest b bm l sf st key side H1 (c.still s1) (r.still s1) hl
  have hlR := len_filter (len_filter hl (inR sf st)) (restK side key)
  generalize (l.filter (inR sf st)).filter (restK side key) = R at ho hlR ⊢
  have hlen := ho.rd.lenS
  have st2 : Still H H2 := s1.still.then s2 fun _ _ h => h
  have f2 : H2.f H.n = .cells [.string (mk []), .string (mk [])] T.api_Pair true := by rw [s2.f (by omega) (fun h => h), f1]
  have n2 : H1.n ≤ H2.n := s2.n
  obtain ⟨H3, hto, c3, fr3⟩ := q_to b R.head? 1 sf st key side H2 (ok.fr st2) (c.still st2)
  generalize hw : toM R.head? 1 = w at *
  have f3 : H3.f H.n = .cells [.string (mk []), .string (mk [])] T.api_Pair true := by rw [fr3.f (by omega) (by omega), f2]
  have fr : Fr (fun c => c = b) H H3 := st2.still.then fr3 fun c _ h => h
  generalize hH4 : H3.set H.n (.cells [.string w.1.key, .string w.1.value] T.api_Pair true) = H4
  have f4 : H4.f H.n = .cells [.string w.1.key, .string w.1.value] T.api_Pair true := by rw [← hH4]; exact set_f_eq
  have c4 : ModL H4 b sf st w.2.2.1 w.2.2.2 := ⟨by rw [← hH4, set_f_ne (by omega)]; exact c3.1, by rw [← hH4]; exact c3.2⟩
  have fr4 : Fr (fun c => c = b) H H4 := by rw [← hH4]; exact Fr.set fr _ _ fun h => by omega
  obtain ⟨H5, hx, c5, fr5⟩ := ModL.tidied (v := .tuple #[.agg #[.string w.1.key, .string w.1.value], .int .i64 w.2.1]) ok c c4 fr4
  refine ⟨w, H5, rfl, (d_law_Model_next _ _ H (r := (.tuple #[.agg #[.string w.1.key, .string w.1.value], .int .i64 w.2.1], H4)) ?_).trans (congrArg some hx), c5, fr5⟩
  cases R with
  | nil =>
    have hlen : lenS v = some (.int .i64 0) := hlen
    subst hw
    have hto : CC F.law_Model_to [.pointer (some ⟨b, 0, none⟩), .agg #[.string (mk []), .string (mk [])], .bool false, .int .i64 1] H2 = some (.tuple #[.agg #[.string (mk []), .string (mk [])], .int .i64 17], H3) := hto
    have hH4 : H3.set H.n (.cells [.string (mk []), .string (mk [])] T.api_Pair true) = H4 := hH4
    have f4 : H4.f H.n = .cells [.string (mk []), .string (mk [])] T.api_Pair true := f4
    show _ = some (Value.tuple #[.agg #[.string (mk []), .string (mk [])], .int .i64 17], H4)
    simp (disch := first | with_reducible rfl | assumption | omega | rfl | (simp only [go_sem]; first | done | omega)) only [go_sem, ↓reduceIte, reduceCtorEq, Nat.reduceEqDiff, Nat.reduceAdd, Nat.reduceSub, Nat.reduceMul, Nat.reduceDiv, Nat.reduceMod, Nat.reduceLeDiff, Nat.reduceLT, Nat.reduceBEq, Int.reduceEq, Int.reduceBEq, Int.reduceBNe, Int.reduceLT, Int.reduceLE, Int.reduceAdd, Int.reduceSub, Int.reduceNeg, Int.reduceToNat, Int.reducePow, Nat.reducePow, Int.reduceMul, Int.reduceDiv, ↓s_law_Model_next, hH1, enterK_eq hr, hlen, enterK_eq hto, f3, hH4, f4]
  | cons a R =>
    have hne : ¬ (R.length : Int) + 1 = 0 := by omega
    obtain ⟨b1, o1, hix, _, hc, _⟩ := ho.rd.ix (q := .i64) (i := 0) (by simp)
    have hix : ixS 2 v (.int .i64 0) = some (.pointer (some ⟨b1, o1, none⟩)) := hix
    have hc : cutB (H2.f b1) o1 2 = some [.string a.key, .string a.value] := hc
    subst hw
    have hto : CC F.law_Model_to [.pointer (some ⟨b, 0, none⟩), .agg #[.string a.key, .string a.value], .bool true, .int .i64 1] H2 = some (.tuple #[.agg #[.string a.key, .string a.value], .int .i64 0], H3) := hto
    have hH4 : H3.set H.n (.cells [.string a.key, .string a.value] T.api_Pair true) = H4 := hH4
    have f4 : H4.f H.n = .cells [.string a.key, .string a.value] T.api_Pair true := f4
    show _ = some (Value.tuple #[.agg #[.string a.key, .string a.value], .int .i64 0], H4)
    simp (disch := first | with_reducible rfl | assumption | omega | rfl | (simp only [go_sem]; first | done | omega)) only [go_sem, ↓reduceIte, reduceCtorEq, Nat.reduceEqDiff, Nat.reduceAdd, Nat.reduceSub, Nat.reduceMul, Nat.reduceDiv, Nat.reduceMod, Nat.reduceLeDiff, Nat.reduceLT, Nat.reduceBEq, Int.reduceEq, Int.reduceBEq, Int.reduceBNe, Int.reduceLT, Int.reduceLE, Int.reduceAdd, Int.reduceSub, Int.reduceNeg, Int.reduceToNat, Int.reducePow, Nat.reducePow, Int.reduceMul, Int.reduceDiv, ↓s_law_Model_next, hH1, enterK_eq hr, hlen, decide_eq_false hne, hix, hc, enterK_eq hto, f3, hH4, f4]

end Go.Proofs.Ytmbppjilnnjdaaa
