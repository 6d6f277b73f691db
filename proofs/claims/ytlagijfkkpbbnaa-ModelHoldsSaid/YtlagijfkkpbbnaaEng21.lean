/-
  The engine, part 21: without fuel: what a call gives from some number of rounds on ('D'), code and loops in the limit, and the equations by which it is reckoned.
  Conditions: none. By an AI agent.
-/
import Derived.Test.YtlagijfkkpbbnaaEng18
namespace Go.Proofs.Ytlagijfkkpbbnaa.Eng
open Go

/-- From some number on it is r. -/
def Evt {α : Type} (g : Nat → Option α) (r : α) : Prop := ∃ n0, ∀ n, n0 ≤ n → g n = some r

theorem Evt.uniq {α : Type} {g : Nat → Option α} {r s : α} (a : Evt g r) (b : Evt g s) : r = s := by
  obtain ⟨n, hn⟩ := a
  obtain ⟨m, hm⟩ := b
  have h := (hn (n + m) (by omega)).symm.trans (hm (n + m) (by omega))
  cases h
  rfl

theorem Evt.of_eq {α : Type} {x : Option α} {r : α} (h : x = some r) : Evt (fun _ => x) r := ⟨0, fun _ _ => h⟩

theorem Evt.bind {α β : Type} {g : Nat → Option α} {f : Nat → α → Option β} {a : α} {b : β} (h : Evt g a) (k : Evt (fun n => f n a) b) : Evt (fun n => (g n).bind (f n)) b := by
  obtain ⟨n, hn⟩ := h
  obtain ⟨m, hm⟩ := k
  refine ⟨n + m, fun i hi => ?_⟩
  dsimp only
  rw [hn i (by omega)]
  exact hm i (by omega)

theorem Evt.congr {α : Type} {g g' : Nat → Option α} {r : α} (h : Evt g r) (e : ∀ n, g' n = g n) : Evt g' r := by
  obtain ⟨n, hn⟩ := h
  exact ⟨n, fun i hi => (e i).trans (hn i hi)⟩

theorem Evt.succ {α : Type} {g : Nat → Option α} {r : α} (h : Evt (fun n => g (n + 1)) r) : Evt g r := by
  obtain ⟨n, hn⟩ := h
  refine ⟨n + 1, fun i hi => ?_⟩
  obtain ⟨j, rfl⟩ : ∃ j, i = j + 1 := ⟨i - 1, by omega⟩
  exact hn j (by omega)

open Classical in
noncomputable def lim {α : Type} (g : Nat → Option α) : Option α := if h : ∃ r, Evt g r then some h.choose else none

theorem lim_some {α : Type} {g : Nat → Option α} {r : α} : lim g = some r ↔ Evt g r := by
  unfold lim
  constructor
  · intro h
    split at h
    · rename_i hx
      cases h
      exact hx.choose_spec
    · cases h
  · intro h
    have hx : ∃ r, Evt g r := ⟨r, h⟩
    rw [dif_pos hx]
    exact congrArg some (hx.choose_spec.uniq h)

theorem lim_none {α : Type} {g : Nat → Option α} (h : ∀ r, ¬ Evt g r) : lim g = none := by
  unfold lim
  rw [dif_neg]
  rintro ⟨r, hr⟩
  exact h r hr

/-! ### Loops and code in the limit -/

theorem dLoop_mono {body : Env → AHeap → DRes} {keep : List Nat} : ∀ {m m' : Nat} {T : Env} {H : AHeap} {r : DExit × Env × AHeap}, m ≤ m' → dLoop body keep m T H = some r → dLoop body keep m' T H = some r
  | 0, _, _, _, _, _, h => by simp [dLoop] at h
  | m + 1, 0, _, _, _, hm, _ => by omega
  | m + 1, m' + 1, T, H, r, hm, h => by
    rw [dLoop] at h ⊢
    cases hb : body (clr keep T) H with
    | none => rw [hb] at h; cases h
    | some x =>
      rw [hb] at h
      obtain ⟨e, T', H'⟩ := x
      cases e with
      | normal => exact dLoop_mono (by omega) h
      | exit i => exact h
      | ret => exact h

noncomputable def loopI (body : Env → AHeap → DRes) (keep : List Nat) (T : Env) (H : AHeap) : DRes := lim fun m => dLoop body keep m T H

theorem loopI_some {body : Env → AHeap → DRes} {keep : List Nat} {T : Env} {H : AHeap} {r : DExit × Env × AHeap} : loopI body keep T H = some r ↔ ∃ m, dLoop body keep m T H = some r := by
  unfold loopI
  rw [lim_some]
  constructor
  · rintro ⟨n, hn⟩
    exact ⟨n, hn n (Nat.le_refl _)⟩
  · rintro ⟨m, hm⟩
    exact ⟨m, fun i hi => dLoop_mono hi hm⟩

noncomputable def dCodeI (P : Program) (N : Nat) (call : CallF) : DCode → Env → AHeap → DRes
  | .skip, T, H => some (.normal, T, H)
  | .region _ ops draw, T, H => (if draw then dDraw P N call ops T H else dOps P N call ops ops.toList T H).map fun r => (.normal, r.1, r.2)
  | .seq a b, T, H => (dCodeI P N call a T H).bind fun r =>
    match r.1 with
    | .normal => dCodeI P N call b r.2.1 r.2.2
    | e => some (e, r.2.1, r.2.2)
  | .cond keep c x y, T, H =>
    match ev T c with
    | .bool b => (if b then dCodeI P N call x T H else dCodeI P N call y T H).map fun r => match r.1 with | .normal => (.normal, clr keep r.2.1, r.2.2) | e => (e, r.2.1, r.2.2)
    | _ => none
  | .block keep id b, T, H => (dCodeI P N call b T H).map fun r =>
    match r.1 with
    | .normal => (.normal, clr keep r.2.1, r.2.2)
    | .exit j => if j = id then (.normal, clr keep r.2.1, r.2.2) else (.exit j, r.2.1, r.2.2)
    | .ret => (.ret, r.2.1, r.2.2)
  | .loop keep b, T, H => loopI (dCodeI P N call b) keep T H
  | .exit id, T, H => some (.exit id, T, H)
  | .ret keep, T, H => some (.ret, clr keep T, H)
  | .bad _, _, _ => none

/-! ### What is so in the limit is so from some number on -/

def CApx (C : CallF) (c : Nat → CallF) : Prop := ∀ f args H r, C f args H = some r → Evt (fun n => c n f args H) r

theorem step_apx {P : Program} {N : Nat} {C : CallF} {c : Nat → CallF} (hc : CApx C c) {ops : Array Oper} {o : Oper} {T : Env} {H : AHeap} {r : Value × AHeap}
    (h : dStep P N C ops o T H = some r) : Evt (fun n => dStep P N (c n) ops o T H) r := by
  unfold dStep at h ⊢
  split at h
  · rename_i hd
    simp only [hd, if_true]
    split at h
    · rename_i hg
      split at h
      · rename_i ho; exact Evt.of_eq h
      · rename_i ho; exact hc _ _ _ _ h
      · cases h
    · exact Evt.of_eq h
    · cases h
  · cases h

theorem ops_apx {P : Program} {N : Nat} {C : CallF} {c : Nat → CallF} (hc : CApx C c) {ops : Array Oper} : ∀ (l : List Oper) {T : Env} {H : AHeap} {r : Env × AHeap},
    dOps P N C ops l T H = some r → Evt (fun n => dOps P N (c n) ops l T H) r
  | [], _, _, _, h => Evt.of_eq h
  | o :: l, T, H, r, h => by
    rw [dOps] at h
    obtain ⟨x, h1, h2⟩ := Option.bind_eq_some_iff.1 h
    exact Evt.bind (step_apx hc h1) (ops_apx hc l h2)

theorem trace_apx {P : Program} {N : Nat} {C : CallF} {c : Nat → CallF} (hc : CApx C c) {ops : Array Oper} : ∀ (l : List Oper) {T : Env} {H : AHeap} {r : List (Env × AHeap)},
    dTrace P N C ops l T H = some r → Evt (fun n => dTrace P N (c n) ops l T H) r
  | [], _, _, _, h => Evt.of_eq h
  | o :: l, T, H, r, h => by
    rw [dTrace] at h
    obtain ⟨x, h1, h2⟩ := Option.bind_eq_some_iff.1 h
    obtain ⟨y, h3, h4⟩ := Option.map_eq_some_iff.1 h2
    refine Evt.bind (step_apx hc h1) ?_
    obtain ⟨n, hn⟩ := trace_apx hc l h3
    exact ⟨n, fun i hi => by dsimp only at hn ⊢; rw [hn i hi]; exact congrArg some h4⟩

theorem draw_apx {P : Program} {N : Nat} {C : CallF} {c : Nat → CallF} (hc : CApx C c) {ops : Array Oper} {T : Env} {H : AHeap} {r : Env × AHeap}
    (h : dDraw P N C ops T H = some r) : Evt (fun n => dDraw P N (c n) ops T H) r := by
  unfold dDraw at h ⊢
  split at h
  · rename_i hd
    simp only [hd, if_true]
    obtain ⟨x, h1, h2⟩ := Option.bind_eq_some_iff.1 h
    exact Evt.bind (trace_apx hc _ h1) (Evt.of_eq h2)
  · cases h

theorem loop_apx {body : Env → AHeap → DRes} {bodies : Nat → Env → AHeap → DRes} (hb : ∀ T H r, body T H = some r → Evt (fun n => bodies n T H) r) (keep : List Nat) :
    ∀ (m : Nat) {T : Env} {H : AHeap} {r : DExit × Env × AHeap}, dLoop body keep m T H = some r → ∃ n0, ∀ n, n0 ≤ n → ∀ m', m ≤ m' → dLoop (bodies n) keep m' T H = some r
  | 0, _, _, _, h => by simp [dLoop] at h
  | m + 1, T, H, r, h => by
    rw [dLoop] at h
    obtain ⟨x, h1, h2⟩ := Option.bind_eq_some_iff.1 h
    obtain ⟨n1, hn1⟩ := hb _ _ _ h1
    dsimp only at hn1
    obtain ⟨e, T', H'⟩ := x
    cases e with
    | normal =>
      obtain ⟨n2, hn2⟩ := loop_apx hb keep m h2
      refine ⟨n1 + n2, fun n hn m' hm => ?_⟩
      obtain ⟨j, rfl⟩ : ∃ j, m' = j + 1 := ⟨m' - 1, by omega⟩
      rw [dLoop, hn1 n (by omega)]
      exact hn2 n (by omega) j (by omega)
    | exit i =>
      refine ⟨n1, fun n hn m' hm => ?_⟩
      obtain ⟨j, rfl⟩ : ∃ j, m' = j + 1 := ⟨m' - 1, by omega⟩
      rw [dLoop, hn1 n (by omega)]
      exact h2
    | ret =>
      refine ⟨n1, fun n hn m' hm => ?_⟩
      obtain ⟨j, rfl⟩ : ∃ j, m' = j + 1 := ⟨m' - 1, by omega⟩
      rw [dLoop, hn1 n (by omega)]
      exact h2

theorem code_apx {P : Program} {N : Nat} {C : CallF} {c : Nat → CallF} (hc : CApx C c) : ∀ (x : DCode) {T : Env} {H : AHeap} {r : DExit × Env × AHeap},
    dCodeI P N C x T H = some r → Evt (fun n => dCode P N (c n) n x T H) r
  | .skip, _, _, _, h => Evt.of_eq h
  | .region id ops draw, T, H, r, h => by
    rw [dCodeI] at h
    obtain ⟨y, h1, h2⟩ := Option.map_eq_some_iff.1 h
    have key : Evt (fun n => if draw then dDraw P N (c n) ops T H else dOps P N (c n) ops ops.toList T H) y := by
      cases draw with
      | true => simp only [if_true] at h1 ⊢; exact draw_apx hc h1
      | false => simp only [Bool.false_eq_true, if_false] at h1 ⊢; exact ops_apx hc _ h1
    obtain ⟨n, hn⟩ := key
    dsimp only at hn
    exact ⟨n, fun i hi => by dsimp only; rw [dCode, hn i hi]; exact congrArg some h2⟩
  | .seq a b, T, H, r, h => by
    rw [dCodeI] at h
    obtain ⟨y, h1, h2⟩ := Option.bind_eq_some_iff.1 h
    obtain ⟨n1, hn1⟩ := code_apx hc a h1
    dsimp only at hn1
    obtain ⟨e, T', H'⟩ := y
    cases e with
    | normal =>
      obtain ⟨n2, hn2⟩ := code_apx hc b h2
      dsimp only at hn2
      exact ⟨n1 + n2, fun i hi => by dsimp only; rw [dCode, hn1 i (by omega)]; exact hn2 i (by omega)⟩
    | exit j => exact ⟨n1, fun i hi => by dsimp only; rw [dCode, hn1 i hi]; exact h2⟩
    | ret => exact ⟨n1, fun i hi => by dsimp only; rw [dCode, hn1 i hi]; exact h2⟩
  | .cond keep q a b, T, H, r, h => by
    rw [dCodeI] at h
    split at h
    · rename_i v hv
      obtain ⟨y, h1, h2⟩ := Option.map_eq_some_iff.1 h
      have key : Evt (fun n => if v then dCode P N (c n) n a T H else dCode P N (c n) n b T H) y := by
        cases v with
        | true => simp only [if_true] at h1 ⊢; exact code_apx hc a h1
        | false => simp only [Bool.false_eq_true, if_false] at h1 ⊢; exact code_apx hc b h1
      obtain ⟨n, hn⟩ := key
      dsimp only at hn
      exact ⟨n, fun i hi => by dsimp only; rw [dCode, hv]; simp only; rw [hn i hi]; exact congrArg some h2⟩
    · cases h
  | .block keep id b, T, H, r, h => by
    rw [dCodeI] at h
    obtain ⟨y, h1, h2⟩ := Option.map_eq_some_iff.1 h
    obtain ⟨n, hn⟩ := code_apx hc b h1
    dsimp only at hn
    exact ⟨n, fun i hi => by dsimp only; rw [dCode, hn i hi]; exact congrArg some h2⟩
  | .loop keep b, T, H, r, h => by
    rw [dCodeI, loopI_some] at h
    obtain ⟨m, hm⟩ := h
    obtain ⟨n0, hn⟩ := loop_apx (fun T H r h => code_apx hc b h) keep m hm
    exact ⟨n0 + m, fun i hi => by dsimp only; rw [dCode]; exact hn i (by omega) i (by omega)⟩
  | .exit id, _, _, _, h => Evt.of_eq h
  | .ret keep, _, _, _, h => Evt.of_eq h
  | .bad _, _, _, _, h => by cases h

/-! ### The same with continuations, loops as a parameter -/

abbrev LoopH := (Env → AHeap → K → Res) → List Nat → Env → AHeap → K → Res

/-- An if; the arms know what is kept behind it. -/
def condL (c : Value) (x y : K → Res) (k : K) : Res :=
  match c with
  | .bool b => if b then x k else y k
  | _ => none

def shareL (f : K → Res) (k : K) : Res := f k

/-- What comes behind a block. -/
def blkK (keep : List Nat) (id : Nat) (k : K) : K := fun e T H => match e with
  | .normal => k .normal (clr keep T) H
  | .exit j => if j = id then k .normal (clr keep T) H else k (.exit j) T H
  | .ret => k .ret T H

/-- The combinators, as variables. -/
structure CombL where
  b : Comb
  c : Value → (K → Res) → (K → Res) → K → Res
  s : (K → Res) → K → Res

abbrev GT := Value → Bool → ((Value → AHeap → Res) → Res) → AHeap → (Value → AHeap → Res) → Res
abbrev CT := Value → (K → Res) → (K → Res) → K → Res
abbrev ST := (K → Res) → K → Res

def stdL : CombL := ⟨std, condL, shareL⟩

theorem stdL_b : stdL.b = std := rfl
theorem stdL_g : stdL.b.g = guardK := rfl
theorem stdL_c : stdL.c = condL := rfl
theorem stdL_s : stdL.s = shareL := rfl

def dCodeL (M : CombL) (P : Program) (N : Nat) (call : CallF) (LP : LoopH) : DCode → Env → AHeap → K → Res
  | .skip, T, H, k => k .normal T H
  | .region _ ops draw, T, H, k => if draw then dDrawK M.b P N call ops T H (k .normal) else dOpsK M.b P N call ops ops.toList T H (k .normal)
  | .seq a b, T, H, k => dCodeL M P N call LP a T H (seqK (fun T' H' => dCodeL M P N call LP b T' H' k) k)
  | .cond keep c x y, T, H, k => M.c (ev T c) (fun k => dCodeL M P N call LP x T H (afterK keep k)) (fun k => dCodeL M P N call LP y T H (afterK keep k)) k
  | .block keep id b, T, H, k => M.s (fun k => dCodeL M P N call LP b T H (blkK keep id k)) k
  | .loop keep b, T, H, k => LP (dCodeL M P N call LP b) keep (clr keep T) H k
  | .exit id, T, H, k => k (.exit id) T H
  | .ret keep, T, H, k => k .ret (clr keep T) H
  | .bad _, _, _, _ => none

noncomputable def limLP : LoopH := fun body keep T H k => lim fun m => dLoopK body keep m T H k

theorem limLP_eq {body : Env → AHeap → DRes} {bodyK : Env → AHeap → K → Res} (hb : PieceK body bodyK) (keep : List Nat) (T : Env) (H : AHeap) (k : K) :
    limLP bodyK keep (clr keep T) H k = (loopI body keep T H).bind fun r => k r.1 r.2.1 r.2.2 := by
  unfold limLP
  have e : (fun m => dLoopK bodyK keep m (clr keep T) H k) = fun m => (dLoop body keep m T H).bind fun r => k r.1 r.2.1 r.2.2 := funext fun m => dLoopK_eq hb keep m T H k
  rw [e]
  cases h : loopI body keep T H with
  | none =>
    refine lim_none fun r ⟨n, hn⟩ => ?_
    obtain ⟨x, hx, _⟩ := Option.bind_eq_some_iff.1 (hn n (Nat.le_refl _))
    rw [loopI_some.2 ⟨n, hx⟩] at h
    cases h
  | some x =>
    obtain ⟨m, hm⟩ := loopI_some.1 h
    simp only [Option.bind_some]
    cases hk : k x.1 x.2.1 x.2.2 with
    | none =>
      refine lim_none fun r ⟨n, hn⟩ => ?_
      have := hn (n + m) (by omega)
      dsimp only at this
      rw [dLoop_mono (by omega) hm] at this
      simp only [Option.bind_some, hk] at this
      cases this
    | some r => exact lim_some.2 ⟨m, fun i hi => by dsimp only; rw [dLoop_mono hi hm]; exact hk⟩

theorem loopI_unfold {body : Env → AHeap → DRes} {keep : List Nat} {T : Env} {H : AHeap} : loopI body keep T H = (body (clr keep T) H).bind fun r =>
    match r.1 with
    | .normal => loopI body keep r.2.1 r.2.2
    | e => some (e, r.2.1, r.2.2) := by
  cases hb : body (clr keep T) H with
  | none =>
    cases h : loopI body keep T H with
    | none => rfl
    | some x =>
      obtain ⟨m, hm⟩ := loopI_some.1 h
      cases m with
      | zero => simp [dLoop] at hm
      | succ m => rw [dLoop, hb] at hm; cases hm
  | some y =>
    obtain ⟨e, T', H'⟩ := y
    cases e with
    | normal =>
      simp only [Option.bind_some]
      cases h : loopI body keep T' H' with
      | none =>
        cases h' : loopI body keep T H with
        | none => rfl
        | some x =>
          obtain ⟨m, hm⟩ := loopI_some.1 h'
          cases m with
          | zero => simp [dLoop] at hm
          | succ m =>
            rw [dLoop, hb] at hm
            rw [loopI_some.2 ⟨m, hm⟩] at h
            cases h
      | some x =>
        obtain ⟨m, hm⟩ := loopI_some.1 h
        exact loopI_some.2 ⟨m + 1, by rw [dLoop, hb]; exact hm⟩
    | exit i => exact loopI_some.2 ⟨1, by rw [dLoop, hb]; rfl⟩
    | ret => exact loopI_some.2 ⟨1, by rw [dLoop, hb]; rfl⟩

theorem dCodeL_eq {P : Program} {N : Nat} {call : CallF} : ∀ (c : DCode), PieceK (dCodeI P N call c) (dCodeL stdL P N call limLP c)
  | .skip => fun _ _ _ => rfl
  | .region id ops draw => fun T H k => by
    rw [dCodeL, dCodeI]
    cases draw with
    | false =>
      simp only [Bool.false_eq_true, if_false, stdL_b]
      rw [dOpsK_eq]
      cases dOps P N call ops ops.toList T H <;> rfl
    | true =>
      simp only [if_true, stdL_b]
      rw [dDrawK_eq]
      cases dDraw P N call ops T H <;> rfl
  | .seq a b => fun T H k => by
    rw [dCodeL, dCodeI, dCodeL_eq a]
    cases dCodeI P N call a T H with
    | none => rfl
    | some r =>
      obtain ⟨e, T', H'⟩ := r
      cases e with
      | normal => simp only [Option.bind_some, seqK]; exact dCodeL_eq b T' H' k
      | exit i => rfl
      | ret => rfl
  | .cond keep c x y => fun T H k => by
    rw [dCodeL, dCodeI, stdL_c]
    unfold condL
    cases ev T c with
    | bool b =>
      cases b with
      | true =>
        have hx := dCodeL_eq (P := P) (N := N) (call := call) x T H (afterK keep k)
        simp only [if_true]
        rw [hx]
        cases dCodeI P N call x T H with
        | none => rfl
        | some r => obtain ⟨e, T', H'⟩ := r; cases e <;> rfl
      | false =>
        have hy := dCodeL_eq (P := P) (N := N) (call := call) y T H (afterK keep k)
        simp only [Bool.false_eq_true, if_false]
        rw [hy]
        cases dCodeI P N call y T H with
        | none => rfl
        | some r => obtain ⟨e, T', H'⟩ := r; cases e <;> rfl
    | _ => rfl
  | .block keep id b => fun T H k => by
    rw [dCodeL, dCodeI, stdL_s]
    unfold shareL
    dsimp only
    rw [dCodeL_eq b]
    cases dCodeI P N call b T H with
    | none => rfl
    | some r =>
      obtain ⟨e, T', H'⟩ := r
      cases e with
      | normal => rfl
      | exit j => simp only [Option.bind_some, Option.map_some, blkK]; split <;> rfl
      | ret => rfl
  | .loop keep b => fun T H k => by
    rw [dCodeL, dCodeI]
    exact limLP_eq (dCodeL_eq b) keep T H k
  | .exit id => fun _ _ _ => rfl
  | .ret keep => fun _ _ _ => rfl
  | .bad c => fun _ _ _ => rfl

/-- What comes behind a round. -/
def roundK (loop : Env → AHeap → K → Res) (keep : List Nat) (k : K) : K := fun e T H => match e with
  | .normal => loop (clr keep T) H k
  | .exit i => k (.exit i) T H
  | .ret => k .ret T H

theorem limLP_round {P : Program} {N : Nat} {call : CallF} (c : DCode) (keep : List Nat) {T : Env} (hT : clr keep T = T) (H : AHeap) (k : K) :
    limLP (dCodeL stdL P N call limLP c) keep T H k = dCodeL stdL P N call limLP c T H (roundK (limLP (dCodeL stdL P N call limLP c) keep) keep k) := by
  have e1 := limLP_eq (dCodeL_eq (P := P) (N := N) (call := call) c) keep T H k
  rw [hT] at e1
  rw [e1, loopI_unfold, hT, dCodeL_eq c]
  cases dCodeI P N call c T H with
  | none => rfl
  | some r =>
    obtain ⟨e, T', H'⟩ := r
    cases e with
    | normal => simp only [Option.bind_some, roundK]; exact (limLP_eq (dCodeL_eq (P := P) (N := N) (call := call) c) keep T' H' k).symm
    | exit i => rfl
    | ret => rfl

def dBodyL (M : CombL) (P : Program) (hints : Hints) (call : CallF) (LP : LoopH) (f : FuncId) (args : List Value) (H : AHeap) : Res :=
  match P.funcs[f]? with
  | some fn => match fn.body with
    | some c => dCodeL M P fn.ntmps call LP (note c (hints f)).1 (argEnv 0 args) H (endK P fn.results.toList)
    | none => none
  | none => none

/-- The body of the i-th loop, and the loop. -/
def bodyL (M : CombL) (P : Program) (hints : Hints) (call : CallF) (LP : LoopH) (f : FuncId) (i : Nat) : Env → AHeap → K → Res := dCodeL M P (tmpsOf P f) call LP (loopOf P hints f i).2
def loopL (M : CombL) (P : Program) (hints : Hints) (call : CallF) (LP : LoopH) (f : FuncId) (i : Nat) : Env → AHeap → K → Res := LP (bodyL M P hints call LP f i) (loopOf P hints f i).1

theorem loopL_round {P : Program} {hints : Hints} {call : CallF} {f : FuncId} {i : Nat} {keep : List Nat} (hk : (loopOf P hints f i).1 = keep) {T : Env} (hT : clr keep T = T) (H : AHeap) (k : K) :
    loopL stdL P hints call limLP f i T H k = bodyL stdL P hints call limLP f i T H (roundK (loopL stdL P hints call limLP f i) keep k) := by
  subst hk
  exact limLP_round _ _ hT H k

theorem roundK_eq (loop : Env → AHeap → K → Res) (keep : List Nat) (k : K) : roundK loop keep k = afterK keep (seqK (fun T H => loop T H k) k) := by
  funext e T H
  cases e <;> rfl

theorem loopL_next {P : Program} {hints : Hints} {call : CallF} {f : FuncId} {i : Nat} {keep : List Nat} (hk : (loopOf P hints f i).1 = keep) {T : Env} (hT : clr keep T = T) (H : AHeap) (k : K) :
    loopL stdL P hints call limLP f i T H k = bodyL stdL P hints call limLP f i T H (afterK keep (seqK (fun T H => loopL stdL P hints call limLP f i T H k) k)) := by
  rw [loopL_round hk hT, roundK_eq]

/-! ### Calls in the limit -/

noncomputable def D (P : Program) (prims : Prims) (hints : Hints) : CallF := fun f args H => lim fun n => dCall P prims hints n f args H

theorem D_apx (P : Program) (prims : Prims) (hints : Hints) : CApx (D P prims hints) (dCall P prims hints) := fun _ _ _ _ h => lim_some.1 h

theorem D_body {P : Program} {prims : Prims} {hints : Hints} {f : FuncId} {args : List Value} {H : AHeap} {r : Value × AHeap} (hp : prims f = none)
    (h : dBodyL stdL P hints (D P prims hints) limLP f args H = some r) : D P prims hints f args H = some (tidy H r) := by
  refine lim_some.2 (Evt.succ ?_)
  have key : Evt (fun n => dBody P hints (dCall P prims hints n) n f args H) r := by
    unfold dBodyL at h
    unfold dBody
    cases hf : P.funcs[f]? with
    | none => rw [hf] at h; cases h
    | some fn =>
      rw [hf] at h
      simp only at h ⊢
      cases hb : fn.body with
      | none => rw [hb] at h; cases h
      | some c =>
        rw [hb] at h
        simp only at h ⊢
        rw [dCodeL_eq] at h
        obtain ⟨x, h1, h2⟩ := Option.bind_eq_some_iff.1 h
        refine Evt.bind (code_apx (D_apx P prims hints) _ h1) (Evt.of_eq ?_)
        obtain ⟨e, T, H1⟩ := x
        cases e with
        | exit i => cases h2
        | normal =>
          simp only [endK, resValsK_eq] at h2
          obtain ⟨l, hl, h3⟩ := Option.bind_eq_some_iff.1 h2
          simp only [hl, Option.map_some]
          exact h3
        | ret =>
          simp only [endK, resValsK_eq] at h2
          obtain ⟨l, hl, h3⟩ := Option.bind_eq_some_iff.1 h2
          simp only [hl, Option.map_some]
          exact h3
  obtain ⟨n, hn⟩ := key
  dsimp only at hn
  refine ⟨n, fun i hi => ?_⟩
  simp only [dCall, hp]
  rw [hn i hi]
  rfl

theorem D_prim {P : Program} {prims : Prims} {hints : Hints} {f : FuncId} {p : List Value → AHeap → Res} {args : List Value} {H : AHeap} {r : Value × AHeap} (hp : prims f = some p)
    (h : p args H = some r) : D P prims hints f args H = some r := by
  refine lim_some.2 ⟨1, fun n hn => ?_⟩
  obtain ⟨m, rfl⟩ : ∃ m, n = m + 1 := ⟨n - 1, by omega⟩
  simp only [dCall, hp]
  exact h

theorem D_run {P : Program} {prims : Prims} {hints : Hints} {f : FuncId} {args : List Value} {H : AHeap} {r : Value × AHeap} (h : D P prims hints f args H = some r) :
    ∃ n, dCall P prims hints n f args H = some r := by
  obtain ⟨n, hn⟩ := lim_some.1 h
  exact ⟨n, hn n (Nat.le_refl _)⟩

end Go.Proofs.Ytlagijfkkpbbnaa.Eng
