/-
  The engine, part 16: the same machine with what comes after handed on: so that a function's run unfolds by reckoning alone.
  Conditions: none. By an AI agent.
-/
import Derived.Test.YtlagijfkkpbbnaaEng15
namespace Go.Proofs.Ytlagijfkkpbbnaa.Eng
open Go

abbrev K := DExit → Env → AHeap → Res

def bareK (x : Option Value) (H : AHeap) (k : Value → AHeap → Res) : Res := x.bind fun v => k v H
def bothK (x : Option (Value × AHeap)) (k : Value → AHeap → Res) : Res := x.bind fun r => k r.1 r.2
def quietK (x : Option AHeap) (k : Value → AHeap → Res) : Res := x.bind fun H => k undef H
def nextK (call : CallF) (H0 : AHeap) (x : Option DNext) (k : Value → AHeap → Res) : Res :=
  match x with
  | some (.val v H) => k v H
  | some (.enter f args) => (call f args H0).bind fun r => k r.1 r.2
  | none => none

theorem bareK_eq {call : CallF} {H0 H : AHeap} {x : Option Value} {k : Value → AHeap → Res} : nextK call H0 (bare x H) k = bareK x H k := by cases x <;> rfl
theorem bothK_eq {call : CallF} {H0 : AHeap} {x : Option (Value × AHeap)} {k : Value → AHeap → Res} : nextK call H0 (both x) k = bothK x k := by cases x <;> rfl
theorem quietK_eq {call : CallF} {H0 : AHeap} {x : Option AHeap} {k : Value → AHeap → Res} : nextK call H0 (quiet x) k = quietK x k := by cases x <;> rfl

/-- An operation behind a guard. -/
def guardK (g : Value) (want : Bool) (op : (Value → AHeap → Res) → Res) (H : AHeap) (k : Value → AHeap → Res) : Res :=
  match g with
  | .bool b => if b == want then op k else k undef H
  | .tuple vs => if vs.size = 0 then k undef H else none
  | _ => none

def goesV (g : Value) (want : Bool) : Option Bool :=
  match g with
  | .bool b => some (b == want)
  | .tuple vs => if vs.size = 0 then some false else none
  | _ => none

/-- Behind an if, only what is asked for is kept. -/
def afterK (keep : List Nat) (k : K) : K := fun e T H => match e with | .normal => k .normal (clr keep T) H | .exit i => k (.exit i) T H | .ret => k .ret T H

/-- An if. -/
def condJ (c : Value) (x y : K → Res) (keep : List Nat) (k : K) : Res :=
  match c with
  | .bool b => if b then x (afterK keep k) else y (afterK keep k)
  | _ => none

/-- The two combinators that hand on what follows to more than one end: variables, while a function's equation is reckoned. -/
structure Comb where
  g : Value → Bool → ((Value → AHeap → Res) → Res) → AHeap → (Value → AHeap → Res) → Res
  c : Value → (K → Res) → (K → Res) → List Nat → K → Res

def std : Comb := ⟨guardK, condJ⟩

theorem std_g : std.g = guardK := rfl
theorem std_c : std.c = condJ := rfl

def blockK (body : K → Res) (keep : List Nat) (id : Nat) (k : K) : Res :=
  body fun e T H => match e with
    | .normal => k .normal (clr keep T) H
    | .exit j => if j = id then k .normal (clr keep T) H else k (.exit j) T H
    | .ret => k .ret T H

def seqK (f : Env → AHeap → Res) (k : K) : K := fun e T H => match e with | .normal => f T H | .exit i => k (.exit i) T H | .ret => k .ret T H

/-- A call of a Go function. -/
def enterK (call : CallF) (g : FuncId) (args : List Value) (H : AHeap) (k : Value → AHeap → Res) : Res := (call g args H).bind fun r => k r.1 r.2

def pickK (c a b : Value) (k : Value → Res) : Res := match c with | .bool c => k (if c then a else b) | _ => none

/-- A call of a value. -/
def callK (P : Program) (call : CallF) (f : Value) (args : List Value) (H : AHeap) (k : Value → AHeap → Res) : Res :=
  match f with
  | .func (.func g) x c => match P.funcs[g]? with
    | some fn => if fn.name = "runtime.NumGoroutine" then none
      else if fn.body.isSome then enterK call g (x.toList ++ args ++ c.toList) H k
      else bareK (xext P fn (x.toList ++ args ++ c.toList) H) H k
    | none => none
  | _ => none

theorem callK_eq {P : Program} {call : CallF} {f : Value} {args : List Value} {H : AHeap} {k : Value → AHeap → Res} : nextK call H (xcall P f args H) k = callK P call f args H k := by
  cases f with
  | func fn x c =>
    cases fn with
    | func g =>
      unfold callK xcall
      simp only
      cases h : P.funcs[g]? with
      | none => rfl
      | some fn =>
        simp only
        split
        · rfl
        · split
          · rfl
          · exact bareK_eq
    | _ => rfl
  | _ => rfl

def dOpK (P : Program) (call : CallF) (ρ : Operand → Value) (o : Op) (H : AHeap) (k : Value → AHeap → Res) : Res :=
  match o with
  | .move x | .assign x => k (ρ x) H
  | .pick c a b => pickK (ρ c) (ρ a) (ρ b) fun v => k v H
  | .alloc t => bothK (xalloc P t H) k
  | .box t x => bothK (newv t (ρ x) H) k
  | .build t parts => bareK (xbuild P t (parts.toList.map fun p => (p.1, ρ p.2))) H k
  | .buildSlice t len parts => bothK (xbuildSlice P t len (parts.toList.map fun p => (p.1, ρ p.2)) H) k
  | .load t a => bareK (xload P t (ρ a) H) H k
  | .store t a x => quietK (xstore P t (ρ a) (ρ x) H) k
  | .nilCheck x => bareK (xnilCheck (ρ x)) H k
  | .binOp op t x y _ => bareK (xbin P op t x y (ρ x) (ρ y)) H k
  | .unOp op _ x => bareK (xun P op (ρ x)) H k
  | .convert src dst x => bothK (xconv P src dst (ρ x) H) k
  | .makeFunc (.func f) x c => k (.func (.func f) (x.map ρ) (c.map ρ)) H
  | .makeSlice t l c => bothK (xmakeSlice P t (ρ l) (ρ c) H) k
  | .slice t x lo hi mx => bareK (xslice P t (ρ x) (lo.map ρ) (hi.map ρ) (mx.map ρ) H) H k
  | .fieldAddr t x f => bareK (xfieldAddr P t (ρ x) f) H k
  | .field t x f => bareK (xfield P t (ρ x) f) H k
  | .indexAddr t x i => bareK (xindexAddr P t (ρ x) (ρ i)) H k
  | .index t x i => bareK (xindex P t (ρ x) (ρ i)) H k
  | .extract x i => bareK (xextract (ρ x) i) H k
  | .call c => match c.callee with
    | .builtin .append => match c.args.toList.map ρ with
      | [s, x] => bothK (xappend P c.argTypes.toList s x H) k
      | _ => none
    | .builtin .len => match c.args.toList.map ρ with
      | [x] => bareK (xlen P c.argTypes.toList x) H k
      | _ => none
    | .builtin .copy => match c.args.toList.map ρ with
      | [d, s] => bothK (xcopy P c.argTypes.toList d s H) k
      | _ => none
    | .builtin .clear => match c.args.toList.map ρ with
      | [x] => bothK (xclear P c.argTypes.toList x H) k
      | _ => none
    | .value f => callK P call (ρ f) (c.args.toList.map ρ) H k
    | .builtin b => nextK call H (xbuiltin P b c.argTypes.toList (c.args.toList.map ρ) H) k
    | .invoke _ _ => none
  | o => nextK call H (dOp P ρ o H) k

theorem dOpK_eq {P : Program} {call : CallF} {ρ : Operand → Value} {o : Op} {H : AHeap} {k : Value → AHeap → Res} : dOpK P call ρ o H k = nextK call H (dOp P ρ o H) k := by
  unfold dOpK
  split <;> first | rfl | skip
  all_goals simp only [dOp]
  all_goals first
    | exact bareK_eq.symm
    | exact bothK_eq.symm
    | exact quietK_eq.symm
    | skip
  · unfold pickK; split <;> simp_all [nextK]
  · rename_i c
    cases hc : c.callee with
    | value f => exact callK_eq.symm
    | invoke a b => rfl
    | builtin b =>
      simp only
      cases b
      all_goals first
        | rfl
        | (simp only; split
           · rename_i h; rw [h]; first | exact bothK_eq.symm | exact bareK_eq.symm
           · unfold xbuiltin; split <;> simp_all [nextK])

theorem goes_V (ops : Array Oper) (o : Oper) (T : Env) {j d : Nat} {want : Bool} (hg : o.guard = some (j, want)) (hd : (ops[j]?).bind (·.dst) = some d) : goes ops o T = goesV (get T d) want := by
  unfold goes goesV
  simp only [hg, hd]
  cases get T d <;> rfl

def dStepK (M : Comb) (P : Program) (N : Nat) (call : CallF) (ops : Array Oper) (o : Oper) (T : Env) (H : AHeap) (k : Value → AHeap → Res) : Res :=
  if dstOk N o.dst then
    match o.guard with
    | none => dOpK P call (ev T) o.op H k
    | some (j, want) => match (ops[j]?).bind (·.dst) with
      | none => none
      | some d => M.g (get T d) want (fun k => dOpK P call (ev T) o.op H k) H k
  else none

theorem dStepK_eq {P : Program} {N : Nat} {call : CallF} {ops : Array Oper} {o : Oper} {T : Env} {H : AHeap} {k : Value → AHeap → Res} :
    dStepK std P N call ops o T H k = (dStep P N call ops o T H).bind fun r => k r.1 r.2 := by
  unfold dStepK dStep
  split
  · have hop : dOpK P call (ev T) o.op H k = (match dOp P (ev T) o.op H with | some (.val v H') => some (v, H') | some (.enter f args) => call f args H | none => none : Res).bind fun r => k r.1 r.2 := by
      rw [dOpK_eq]
      unfold nextK
      cases dOp P (ev T) o.op H with
      | none => rfl
      | some x => cases x <;> rfl
    cases hg : o.guard with
    | none =>
      have : goes ops o T = some true := by unfold goes; simp [hg]
      rw [this]
      exact hop
    | some g =>
      obtain ⟨j, want⟩ := g
      simp only
      cases hd : (ops[j]?).bind (·.dst) with
      | none =>
        have : goes ops o T = none := by unfold goes; simp [hg, hd]
        rw [this]
        rfl
      | some d =>
        rw [goes_V ops o T hg hd]
        simp only [std_g, guardK, goesV, hop]
        cases get T d with
        | bool b => cases b <;> cases want <;> rfl
        | tuple vs => simp only; split <;> rfl
        | _ => rfl
  · rfl

def dOpsK (M : Comb) (P : Program) (N : Nat) (call : CallF) (ops : Array Oper) : List Oper → Env → AHeap → (Env → AHeap → Res) → Res
  | [], T, H, k => k T H
  | o :: rest, T, H, k => dStepK M P N call ops o T H fun v H' => dOpsK M P N call ops rest (put T o.dst v) H' k

theorem dOpsK_eq {P : Program} {N : Nat} {call : CallF} {ops : Array Oper} : ∀ (l : List Oper) {T : Env} {H : AHeap} {k : Env → AHeap → Res},
    dOpsK std P N call ops l T H k = (dOps P N call ops l T H).bind fun r => k r.1 r.2
  | [], _, _, _ => rfl
  | o :: rest, T, H, k => by
    rw [dOpsK, dStepK_eq, dOps]
    cases dStep P N call ops o T H with
    | none => rfl
    | some r => simp only [Option.bind_some]; exact dOpsK_eq rest

def dTraceK (M : Comb) (P : Program) (N : Nat) (call : CallF) (ops : Array Oper) : List Oper → Env → AHeap → List (Env × AHeap) → (List (Env × AHeap) → Env → AHeap → Res) → Res
  | [], T, H, acc, k => k (acc ++ [(T, H)]) T H
  | o :: rest, T, H, acc, k => dStepK M P N call ops o (clr (looks ops o) T) H fun v H' => dTraceK M P N call ops rest (put T o.dst v) H' (acc ++ [(T, H)]) k

theorem dTraceK_eq {P : Program} {N : Nat} {call : CallF} {ops : Array Oper} : ∀ (l : List Oper) {T : Env} {H : AHeap} {acc : List (Env × AHeap)} {k : List (Env × AHeap) → Env → AHeap → Res},
    dTraceK std P N call ops l T H acc k = (dTrace P N call ops l T H).bind fun tr => (tr.getLast?).bind fun r => k (acc ++ tr) r.1 r.2
  | [], _, _, _, _ => rfl
  | o :: rest, T, H, acc, k => by
    rw [dTraceK, dStepK_eq, dTrace]
    cases dStep P N call ops o (clr (looks ops o) T) H with
    | none => rfl
    | some r =>
      simp only [Option.bind_some]
      rw [dTraceK_eq rest]
      cases h : dTrace P N call ops rest (put T o.dst r.1) r.2 with
      | none => rfl
      | some tr =>
        simp only [Option.bind_some, Option.map_some]
        have hne : tr ≠ [] := by
          intro h0
          subst h0
          cases rest with
          | nil => simp [dTrace] at h
          | cons o' rest' =>
            simp only [dTrace, Option.bind_eq_some_iff, Option.map_eq_some_iff] at h
            obtain ⟨_, _, _, _, h⟩ := h
            cases h
        cases tr with
        | nil => exact absurd rfl hne
        | cons a tr => simp [List.append_assoc]

def okV (go : Option Bool) (rd : Option Nat) (a a' b b' : AHeap) : Bool :=
  (match go with
   | some false => true
   | _ => match rd with
     | some k => decide (a.n ≤ k) || a'.ver k == a.ver k
     | none => true) &&
  (decide (a.n ≤ b.n) || decide (b'.n ≤ b.n) || a'.ver b.n == a.ver b.n)

def goesQ (ops : Array Oper) (o : Oper) (T : Env) : Option Bool :=
  match o.guard with
  | none => some true
  | some (j, want) => match (ops[j]?).bind (·.dst) with
    | none => none
    | some d => goesV (get T d) want

theorem goesQ_eq (ops : Array Oper) (o : Oper) (T : Env) : goesQ ops o T = goes ops o T := by
  unfold goesQ goes
  cases o.guard with
  | none => rfl
  | some g =>
    obtain ⟨j, want⟩ := g
    simp only
    cases (ops[j]?).bind (·.dst) <;> rfl

def okPairK (ops : Array Oper) (tr : List (Env × AHeap)) (p : Nat × Nat) : Bool :=
  match tr[p.1]?, tr[p.1 + 1]?, tr[p.2]?, tr[p.2 + 1]?, ops[p.2]? with
  | some a, some a', some b, some b', some o => okV (goesQ ops o (clr (looks ops o) b.1)) (rdBlk (ev (clr (looks ops o) b.1)) o.op) a.2 a'.2 b.2 b'.2
  | _, _, _, _, _ => false

theorem okPairK_eq (ops : Array Oper) (tr : List (Env × AHeap)) (p : Nat × Nat) : okPairK ops tr p = okPair ops tr p := by
  unfold okPairK okPair
  simp only [okV, goesQ_eq]
  cases tr[p.1]? <;> cases tr[p.1 + 1]? <;> cases tr[p.2]? <;> cases tr[p.2 + 1]? <;> cases ops[p.2]? <;> rfl

def checkK (b : Bool) (r : Res) : Res := if b then r else none

def dDrawK (M : Comb) (P : Program) (N : Nat) (call : CallF) (ops : Array Oper) (T : Env) (H : AHeap) (k : Env → AHeap → Res) : Res :=
  if drawOk ops then dTraceK M P N call ops ops.toList T H [] fun tr T H => checkK ((clash ops).all (okPairK ops tr)) (k T H)
  else none

theorem dDrawK_eq {P : Program} {N : Nat} {call : CallF} {ops : Array Oper} {T : Env} {H : AHeap} {k : Env → AHeap → Res} :
    dDrawK std P N call ops T H k = (dDraw P N call ops T H).bind fun r => k r.1 r.2 := by
  unfold dDrawK dDraw
  split
  · rw [dTraceK_eq]
    cases h : dTrace P N call ops ops.toList T H with
    | none => rfl
    | some tr =>
      simp only [Option.bind_some, List.nil_append, checkK, show okPairK ops tr = okPair ops tr from funext (okPairK_eq ops tr)]
      split
      · rfl
      · cases tr.getLast? <;> rfl
  · rfl

def dLoopK (body : Env → AHeap → K → Res) (keep : List Nat) : Nat → Env → AHeap → K → Res
  | 0, _, _, _ => none
  | n + 1, T, H, k => body T H fun e T' H' => match e with
    | .normal => dLoopK body keep n (clr keep T') H' k
    | .exit i => k (.exit i) T' H'
    | .ret => k .ret T' H'

def dCodeK (M : Comb) (P : Program) (N : Nat) (call : CallF) (n : Nat) : DCode → Env → AHeap → K → Res
  | .skip, T, H, k => k .normal T H
  | .region _ ops draw, T, H, k => if draw then dDrawK M P N call ops T H (k .normal) else dOpsK M P N call ops ops.toList T H (k .normal)
  | .seq a b, T, H, k => dCodeK M P N call n a T H (seqK (fun T' H' => dCodeK M P N call n b T' H' k) k)
  | .cond keep c x y, T, H, k => M.c (ev T c) (fun k => dCodeK M P N call n x T H k) (fun k => dCodeK M P N call n y T H k) keep k
  | .block keep id b, T, H, k => blockK (fun k => dCodeK M P N call n b T H k) keep id k
  | .loop keep b, T, H, k => dLoopK (dCodeK M P N call n b) keep n (clr keep T) H k
  | .exit id, T, H, k => k (.exit id) T H
  | .ret keep, T, H, k => k .ret (clr keep T) H
  | .bad _, _, _, _ => none

def PieceK (p : Env → AHeap → DRes) (q : Env → AHeap → K → Res) : Prop := ∀ T H k, q T H k = (p T H).bind fun r => k r.1 r.2.1 r.2.2

theorem dLoopK_eq {body : Env → AHeap → DRes} {bodyK : Env → AHeap → K → Res} (hb : PieceK body bodyK) (keep : List Nat) : ∀ n T H k, dLoopK bodyK keep n (clr keep T) H k = (dLoop body keep n T H).bind fun r => k r.1 r.2.1 r.2.2
  | 0 => fun _ _ _ => rfl
  | n + 1 => fun T H k => by
    rw [dLoopK, dLoop, hb]
    cases body (clr keep T) H with
    | none => rfl
    | some r =>
      obtain ⟨e, T', H'⟩ := r
      cases e with
      | normal => simp only [Option.bind_some]; exact dLoopK_eq hb keep n T' H' k
      | exit i => rfl
      | ret => rfl

theorem dCodeK_eq {P : Program} {N : Nat} {call : CallF} {n : Nat} : ∀ (c : DCode), PieceK (dCode P N call n c) (dCodeK std P N call n c)
  | .skip => fun _ _ _ => rfl
  | .region id ops draw => fun T H k => by
    rw [dCodeK, dCode]
    cases draw with
    | false =>
      simp only [Bool.false_eq_true, if_false]
      rw [dOpsK_eq]
      cases dOps P N call ops ops.toList T H <;> rfl
    | true =>
      simp only [if_true]
      rw [dDrawK_eq]
      cases dDraw P N call ops T H <;> rfl
  | .seq a b => fun T H k => by
    rw [dCodeK, dCode, dCodeK_eq a]
    cases dCode P N call n a T H with
    | none => rfl
    | some r =>
      obtain ⟨e, T', H'⟩ := r
      cases e with
      | normal => simp only [Option.bind_some, seqK]; exact dCodeK_eq b T' H' k
      | exit i => rfl
      | ret => rfl
  | .cond keep c x y => fun T H k => by
    rw [dCodeK, dCode, std_c]
    unfold condJ
    cases ev T c with
    | bool b =>
      cases b with
      | true =>
        have hx := dCodeK_eq (P := P) (N := N) (call := call) (n := n) x T H (afterK keep k)
        simp only [if_true]
        rw [hx]
        cases dCode P N call n x T H with
        | none => rfl
        | some r => obtain ⟨e, T', H'⟩ := r; cases e <;> rfl
      | false =>
        have hy := dCodeK_eq (P := P) (N := N) (call := call) (n := n) y T H (afterK keep k)
        simp only [Bool.false_eq_true, if_false]
        rw [hy]
        cases dCode P N call n y T H with
        | none => rfl
        | some r => obtain ⟨e, T', H'⟩ := r; cases e <;> rfl
    | _ => rfl
  | .block keep id b => fun T H k => by
    rw [dCodeK, dCode, blockK, dCodeK_eq b]
    cases dCode P N call n b T H with
    | none => rfl
    | some r =>
      obtain ⟨e, T', H'⟩ := r
      cases e with
      | normal => rfl
      | exit j => simp only [Option.bind_some, Option.map_some]; split <;> rfl
      | ret => rfl
  | .loop keep b => fun T H k => by
    rw [dCodeK, dCode]
    exact dLoopK_eq (dCodeK_eq b) keep n T H k
  | .exit id => fun _ _ _ => rfl
  | .ret keep => fun _ _ _ => rfl
  | .bad c => fun _ _ _ => rfl

def resValsK (P : Program) (H : AHeap) (T : Env) : List ResultVar → (List Value → Res) → Res
  | [], k => k []
  | .tmp t :: rs, k => resValsK P H T rs fun l => k (get T t :: l)
  | .cell a t :: rs, k => (xload P t (get T a) H).bind fun v => resValsK P H T rs fun l => k (v :: l)

theorem resValsK_eq {P : Program} {H : AHeap} {T : Env} : ∀ (rs : List ResultVar) {k : List Value → Res}, resValsK P H T rs k = (resVals P H T rs).bind k
  | [], _ => rfl
  | .tmp t :: rs, k => by
    rw [resValsK, resValsK_eq rs, resVals, resVal]
    cases resVals P H T rs <;> rfl
  | .cell a t :: rs, k => by
    rw [resValsK, resVals, resVal]
    cases xload P t (get T a) H with
    | none => rfl
    | some v =>
      simp only [Option.bind_some]
      rw [resValsK_eq rs]
      cases resVals P H T rs <;> rfl

/-- The end of a body. -/
def endK (P : Program) (rs : List ResultVar) : K := fun e T H => match e with
  | .exit _ => none
  | .normal => resValsK P H T rs fun l => some (resultOf l, H)
  | .ret => resValsK P H T rs fun l => some (resultOf l, H)

def dBodyK (M : Comb) (P : Program) (hints : Hints) (call : CallF) (n : Nat) (f : FuncId) (args : List Value) (H : AHeap) : Res :=
  match P.funcs[f]? with
  | some fn => match fn.body with
    | some c => dCodeK M P fn.ntmps call n (note c (hints f)).1 (argEnv 0 args) H (endK P fn.results.toList)
    | none => none
  | none => none

theorem dBodyK_eq (P : Program) (hints : Hints) (call : CallF) (n : Nat) (f : FuncId) (args : List Value) (H : AHeap) : dBodyK std P hints call n f args H = dBody P hints call n f args H := by
  unfold dBodyK dBody
  cases P.funcs[f]? with
  | none => rfl
  | some fn =>
    simp only
    cases fn.body with
    | none => rfl
    | some c =>
      simp only
      rw [dCodeK_eq]
      congr 1
      funext r
      obtain ⟨e, T, H⟩ := r
      cases e with
      | normal => simp only [endK]; rw [resValsK_eq]; cases resVals P H T _ <;> rfl
      | exit i => rfl
      | ret => simp only [endK]; rw [resValsK_eq]; cases resVals P H T _ <;> rfl

/-- The i-th loop of a code, in the order of the text: what is asked for at its head, and its body. -/
def loops : DCode → List (List Nat × DCode)
  | .seq a b => loops a ++ loops b
  | .cond _ _ a b => loops a ++ loops b
  | .block _ _ b => loops b
  | .loop keep b => (keep, b) :: loops b
  | _ => []

def codeOf (P : Program) (hints : Hints) (f : FuncId) : DCode := match P.funcs[f]? with | some fn => (match fn.body with | some c => (note c (hints f)).1 | none => .skip) | none => .skip
def loopOf (P : Program) (hints : Hints) (f : FuncId) (i : Nat) : List Nat × DCode := (loops (codeOf P hints f)).getD i ([], .skip)
def tmpsOf (P : Program) (f : FuncId) : Nat := match P.funcs[f]? with | some fn => fn.ntmps | none => 0

/-- The body of the i-th loop. -/
def bodyK (M : Comb) (P : Program) (hints : Hints) (call : CallF) (n : Nat) (f : FuncId) (i : Nat) : Env → AHeap → K → Res   := dCodeK M P (tmpsOf P f) call n (loopOf P hints f i).2
/-- The i-th loop. -/
def loopK (M : Comb) (P : Program) (hints : Hints) (call : CallF) (n : Nat) (f : FuncId) (i : Nat) : Nat → Env → AHeap → K → Res := dLoopK (bodyK M P hints call n f i) (loopOf P hints f i).1

end Go.Proofs.Ytlagijfkkpbbnaa.Eng
