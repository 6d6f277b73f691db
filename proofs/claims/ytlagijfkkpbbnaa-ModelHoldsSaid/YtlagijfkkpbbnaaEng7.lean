/-
  The engine, part 7: regions in the order of the text, code, loops, calls.
  Conditions: none. By an AI agent.
-/
import Derived.Test.YtlagijfkkpbbnaaEng6
import Derived.Orders
import Derived.LoopN
namespace Go.Proofs.Ytlagijfkkpbbnaa.Eng
open Go

/-! ### The abstract machine -/

abbrev Env := List (Nat × Value)

def get (T : Env) (t : Nat) : Value := (T.lookup t).getD top
def put (T : Env) (dst : Option Nat) (v : Value) : Env := match dst with | some d => (d, v) :: T | none => T
def clr (keep : List Nat) (T : Env) : Env := keep.map fun t => (t, get T t)

def ev (T : Env) : Operand → Value
  | .tmp t => get T t
  | .const v => if gr 9 v then v else top
  | .global _ => top
  | .func f => .func (.func f) #[] #[]

def dstOk (N : Nat) : Option Nat → Bool
  | some d => decide (d < N)
  | none => true

abbrev Res := Option (Value × AHeap)
abbrev CallF := FuncId → List Value → AHeap → Res

/-- Does the guard let the operation be carried out? -/
def goes (ops : Array Oper) (o : Oper) (T : Env) : Option Bool :=
  match o.guard with
  | none => some true
  | some (j, want) =>
    match (ops[j]?).bind (·.dst) with
    | none => none
    | some d => match get T d with
      | .bool b => some (b == want)
      | .tuple vs => if vs.size = 0 then some false else none
      | _ => none

def dStep (P : Program) (N : Nat) (call : CallF) (ops : Array Oper) (o : Oper) (T : Env) (H : AHeap) : Option (Value × AHeap) :=
  if dstOk N o.dst then
    match goes ops o T with
    | some true => match dOp P (ev T) o.op H with
      | some (.val v H') => some (v, H')
      | some (.enter f args) => call f args H
      | none => none
    | some false => some (undef, H)
    | none => none
  else none

def dOps (P : Program) (N : Nat) (call : CallF) (ops : Array Oper) : List Oper → Env → AHeap → Option (Env × AHeap)
  | [], T, H => some (T, H)
  | o :: rest, T, H => (dStep P N call ops o T H).bind fun r => dOps P N call ops rest (put T o.dst r.1) r.2

/-- Code, with the temporaries that are asked for behind a loop's head, a block, an if, a return. -/
inductive DCode where
  | skip
  | region (id : Nat) (ops : Array Oper) (draw : Bool)
  | seq (a b : DCode)
  | cond (keep : List Nat) (c : Operand) (thn els : DCode)
  | block (keep : List Nat) (id : Nat) (body : DCode)
  | loop (keep : List Nat) (body : DCode)
  | exit (id : Nat)
  | ret (keep : List Nat)
  | bad (c : Code)

def erase : DCode → Code
  | .skip => .skip
  | .region id ops draw => .region id ops draw
  | .seq a b => .seq (erase a) (erase b)
  | .cond _ c x y => .cond c (erase x) (erase y)
  | .block _ id b => .block id (erase b)
  | .loop _ b => .loop (erase b)
  | .exit id => .exit id
  | .ret _ => .ret
  | .bad c => c

/-- The code of a function, with hints in the order of the text: a list for each if, block, loop and return. -/
def note : Code → List (List Nat) → DCode × List (List Nat)
  | .skip, h => (.skip, h)
  | .region id ops draw, h => (.region id ops draw, h)
  | .seq a b, h => let x := note a h; let y := note b x.2; (.seq x.1 y.1, y.2)
  | .cond c a b, h => let x := note a h.tail; let y := note b x.2; (.cond (h.headD []) c x.1 y.1, y.2)
  | .block id b, h => let x := note b h.tail; (.block (h.headD []) id x.1, x.2)
  | .loop b, h => let x := note b h.tail; (.loop (h.headD []) x.1, x.2)
  | .exit id, h => (.exit id, h)
  | .ret, h => (.ret (h.headD []), h.tail)
  | c, h => (.bad c, h)

theorem erase_note : ∀ (c : Code) (h : List (List Nat)), erase (note c h).1 = c
  | .skip, _ => rfl
  | .region _ _ _, _ => rfl
  | .seq a b, h => by simp [note, erase, erase_note a, erase_note b]
  | .cond c a b, h => by simp [note, erase, erase_note a, erase_note b]
  | .block id b, h => by simp [note, erase, erase_note b]
  | .loop b, h => by simp [note, erase, erase_note b]
  | .exit id, _ => rfl
  | .scope _, _ => rfl
  | .ret, _ => rfl
  | .rangeFunc _ _ _ _, _ => rfl
  | .label _, _ => rfl
  | .goto _, _ => rfl
  | .refuse _, _ => rfl

inductive DExit where
  | normal
  | exit (id : Nat)
  | ret

abbrev DRes := Option (DExit × Env × AHeap)

def dLoop (body : Env → AHeap → DRes) (keep : List Nat) : Nat → Env → AHeap → DRes
  | 0, _, _ => none
  | n + 1, T, H => (body (clr keep T) H).bind fun r =>
    match r.1 with
    | .normal => dLoop body keep n r.2.1 r.2.2
    | e => some (e, r.2.1, r.2.2)

/-- Operations that may turn memory that is there, or that are calls of functions of the program. -/
def isEff : Op → Bool
  | .move _ | .assign _ | .pick _ _ _ | .alloc _ | .box _ _ | .build _ _ | .buildSlice _ _ _ | .load _ _ | .nilCheck _ | .binOp _ _ _ _ _ | .unOp _ _ _ | .convert _ _ _
  | .makeInterface _ _ | .makeFunc _ _ _ | .makeSlice _ _ _ | .slice _ _ _ _ _ | .fieldAddr _ _ _ | .field _ _ _ | .indexAddr _ _ _ | .index _ _ _ | .extract _ _ => false
  | .call c => match c.callee with
    | .builtin .len | .builtin .min | .builtin .max => false
    | _ => true
  | _ => true

def blockOf : Value → Option Nat
  | .pointer (some a) => some a.block
  | .slice (some a) _ _ => some a.block
  | .map (some b) => some b
  | _ => none

/-- The block that an operation looks at. -/
def rdBlk (ρ : Operand → Value) : Op → Option Nat
  | .load _ a => blockOf (ρ a)
  | .slice _ x _ _ _ => blockOf (ρ x)
  | .convert _ _ x => blockOf (ρ x)
  | _ => none

/-- The temporaries that an operation looks at. -/
def looks (ops : Array Oper) (o : Oper) : List Nat :=
  (o.op.operands.toList.filterMap fun | .tmp t => some t | _ => none) ++
  (match o.guard with
   | some (g, _) => ((ops[g]?).bind (·.dst)).toList
   | none => [])

/-- For each operation, in bits: those that stand before it in every order. -/
def masks : List Oper → List Nat → List Nat
  | [], acc => acc
  | o :: r, acc => masks r (acc ++ [o.after.toList.foldl (fun s e => if Region.binds .any e then s ||| 2 ^ e.on ||| acc.getD e.on 0 else s) 0])

def bit (m : List Nat) (i j : Nat) : Bool := (m.getD j 0).testBit i
def apart (m : List Nat) (i j : Nat) : Bool := !bit m i j && !bit m j i

/-- Which regions that draw their order are covered: each edge goes back; who writes a temporary is ordered with whoever names it; what turns memory is ordered. -/
def drawOk (ops : Array Oper) : Bool :=
  let m := masks ops.toList []
  let l := ops.toList.zipIdx
  (l.all fun x => x.1.after.toList.all fun e => !Region.binds .any e || decide (e.on < x.2)) &&
  (l.all fun x => l.all fun y => x.2 == y.2 || !apart m x.2 y.2 ||
    (match y.1.dst with
     | none => true
     | some t => !(looks ops x.1).contains t && x.1.dst != some t)) &&
  (l.all fun x => l.all fun y => x.2 == y.2 || !apart m x.2 y.2 || !isEff x.1.op || !isEff y.1.op)

/-- What turns memory, beside what doesn't, in whatever order. -/
def clash (ops : Array Oper) : List (Nat × Nat) :=
  let m := masks ops.toList []
  let l := ops.toList.zipIdx
  l.flatMap fun x => if isEff x.1.op then l.filterMap fun y => if !isEff y.1.op && apart m x.2 y.2 then some (x.2, y.2) else none else []

def dTrace (P : Program) (N : Nat) (call : CallF) (ops : Array Oper) : List Oper → Env → AHeap → Option (List (Env × AHeap))
  | [], T, H => some [(T, H)]
  | o :: rest, T, H => (dStep P N call ops o (clr (looks ops o) T) H).bind fun r => (dTrace P N call ops rest (put T o.dst r.1) r.2).map fun l => (T, H) :: l

/-- Operation i has not written the block that operation j looks at, nor the one that it makes. -/
def okPair (ops : Array Oper) (tr : List (Env × AHeap)) (p : Nat × Nat) : Bool :=
  match tr[p.1]?, tr[p.1 + 1]?, tr[p.2]?, tr[p.2 + 1]?, ops[p.2]? with
  | some a, some a', some b, some b', some o =>
    (match goes ops o (clr (looks ops o) b.1) with
     | some false => true
     | _ => match rdBlk (ev (clr (looks ops o) b.1)) o.op with
       | some k => decide (a.2.n ≤ k) || a'.2.ver k == a.2.ver k
       | none => true) &&
    (decide (a.2.n ≤ b.2.n) || decide (b'.2.n ≤ b.2.n) || a'.2.ver b.2.n == a.2.ver b.2.n)
  | _, _, _, _, _ => false

def dDraw (P : Program) (N : Nat) (call : CallF) (ops : Array Oper) (T : Env) (H : AHeap) : Option (Env × AHeap) :=
  if drawOk ops then (dTrace P N call ops ops.toList T H).bind fun tr => if (clash ops).all (okPair ops tr) then tr.getLast? else none
  else none

def dCode (P : Program) (N : Nat) (call : CallF) (n : Nat) : DCode → Env → AHeap → DRes
  | .skip, T, H => some (.normal, T, H)
  | .region _ ops draw, T, H => (if draw then dDraw P N call ops T H else dOps P N call ops ops.toList T H).map fun r => (.normal, r.1, r.2)
  | .seq a b, T, H => (dCode P N call n a T H).bind fun r =>
    match r.1 with
    | .normal => dCode P N call n b r.2.1 r.2.2
    | e => some (e, r.2.1, r.2.2)
  | .cond keep c x y, T, H =>
    match ev T c with
    | .bool b => (if b then dCode P N call n x T H else dCode P N call n y T H).map fun r => match r.1 with | .normal => (.normal, clr keep r.2.1, r.2.2) | e => (e, r.2.1, r.2.2)
    | _ => none
  | .block keep id b, T, H => (dCode P N call n b T H).map fun r =>
    match r.1 with
    | .normal => (.normal, clr keep r.2.1, r.2.2)
    | .exit j => if j = id then (.normal, clr keep r.2.1, r.2.2) else (.exit j, r.2.1, r.2.2)
    | .ret => (.ret, r.2.1, r.2.2)
  | .loop keep b, T, H => dLoop (dCode P N call n b) keep n T H
  | .exit id, T, H => some (.exit id, T, H)
  | .ret keep, T, H => some (.ret, clr keep T, H)
  | .bad _, _, _ => none

def resVal (P : Program) (H : AHeap) (T : Env) : ResultVar → Option Value
  | .tmp t => some (get T t)
  | .cell a t => xload P t (get T a) H

def resVals (P : Program) (H : AHeap) (T : Env) : List ResultVar → Option (List Value)
  | [] => some []
  | r :: rs => (resVal P H T r).bind fun v => (resVals P H T rs).map fun l => v :: l

def resultOf : List Value → Value
  | [v] => v
  | l => .tuple l.toArray

def undefs : Nat → Nat → Env
  | _, 0 => []
  | i, n + 1 => (i, undef) :: undefs (i + 1) n

def argEnv : Nat → List Value → Env
  | _, [] => []
  | i, v :: l => (i, v) :: argEnv (i + 1) l

/-- A body-less or a proved function that is taken as a whole. -/
abbrev Prims := FuncId → Option (List Value → AHeap → Res)
abbrev Hints := FuncId → List (List Nat)

def dBody (P : Program) (hints : Hints) (call : CallF) (n : Nat) (f : FuncId) (args : List Value) (H : AHeap) : Res :=
  match P.funcs[f]? with
  | some fn => match fn.body with
    | some c =>
      (dCode P fn.ntmps call n (note c (hints f)).1 (argEnv 0 args) H).bind fun r =>
        match r.1 with
        | .exit _ => none
        | _ => (resVals P r.2.2 r.2.1 fn.results.toList).map fun l => (resultOf l, r.2.2)
    | none => none
  | none => none

/-- Nothing that was there was written. -/
def still (H H' : AHeap) : Bool := (List.range H.n).all fun b => H'.ver b == H.ver b

/-- What a call made, and nobody can reach, is forgotten. -/
def tidy (H : AHeap) (r : Value × AHeap) : Value × AHeap := if gr 9 r.1 && still H r.2 then (r.1, H) else r

def dCall (P : Program) (prims : Prims) (hints : Hints) : Nat → CallF
  | 0, _, _, _ => none
  | n + 1, f, args, H => match prims f with
    | some p => p args H
    | none => (dBody P hints (dCall P prims hints n) n f args H).map (tidy H)

end Go.Proofs.Ytlagijfkkpbbnaa.Eng
