/-
  The engine, part 2: what each operation does on the abstract heap.
  Conditions: none. By an AI agent.
-/
import Derived.Test.YtlagijfkkpbbnaaEng1
import Derived.Lib.Bytealg
import Derived.Lib.Overlaps
namespace Go.Proofs.Ytlagijfkkpbbnaa.Eng
open Go

/-- The result of a computation that touches no memory and asks nothing. -/
def pv {α : Type} (P : Program) : Sem α → Option α
  | .pure a => some a
  | .program k => pv P (k P)
  | _ => none

abbrev top : Value := .chan none

/-- The same, if the result names no memory. -/
def pvg (P : Program) (s : Sem Value) : Option Value :=
  match pv P s with
  | some v => if gr 9 v then some v else none
  | none => none

/-- May it be stored into one cell? -/
def one : Value → Bool
  | .agg _ | .tuple _ | .chan _ => false
  | _ => true

def spl : List Value → Nat → List Value → List Value
  | xs, _, [] => xs
  | xs, o, v :: r => spl (xs.set o v) (o + 1) r

/-- Is it a struct or an array? -/
def row? (P : Program) (t : TypeId) : Option Bool :=
  match P.underlying t with
  | some (.struct _) | some (.array _ _) => some true
  | some _ => some false
  | none => none

/-- The cells of an element. -/
def sizeQ (P : Program) (t : TypeId) : Option Nat := (P.info? t).map (·.size)

/-! Reading -/
def ld1 (H : AHeap) : Value → Option Value
  | .pointer (some ⟨b, o, none⟩) => match H.f b with | .cells xs _ _ => xs[o]? | _ => none
  | _ => none

def cut (H : AHeap) (b o n : Nat) : Option (List Value) :=
  match H.f b with
  | .cells xs _ _ => if o + n ≤ xs.length then some ((xs.drop o).take n) else none
  | _ => none

def ldN (n : Nat) (H : AHeap) : Value → Option Value
  | .pointer (some ⟨b, o, none⟩) => (cut H b o n).map fun l => .agg l.toArray
  | _ => none

def xload (P : Program) (t : TypeId) (a : Value) (H : AHeap) : Option Value :=
  match row? P t with
  | some true => ldN (P.cellsOf t) H a
  | some false => ld1 H a
  | none => none

/-! Writing -/
def st1 (H : AHeap) (a v : Value) : Option AHeap :=
  match a with
  | .pointer (some ⟨b, o, none⟩) => match H.f b with
    | .cells xs e true => if o < xs.length then (if one v then some (H.set b (.cells (xs.set o v) e true)) else none) else none
    | _ => none
  | _ => none

def stL (H : AHeap) (b o : Nat) (vs : List Value) : Option AHeap :=
  match H.f b with
  | .cells xs e true => if o + vs.length ≤ xs.length then (if vs.all one then some (H.set b (.cells (spl xs o vs) e true)) else none) else none
  | _ => none

def stN (n : Nat) (H : AHeap) (a v : Value) : Option AHeap :=
  match a, v with
  | .pointer (some ⟨b, o, none⟩), .agg cs => if cs.size = n then stL H b o cs.toList else none
  | _, _ => none

def xstore (P : Program) (t : TypeId) (a v : Value) (H : AHeap) : Option AHeap :=
  match row? P t with
  | some true => stN (P.cellsOf t) H a v
  | some false => if P.cellsOf t = 1 then st1 H a v else none
  | none => none

/-! New variables -/
def flat : Value → Option (List Value)
  | .agg cs => some cs.toList
  | .tuple _ | .chan _ => none
  | v => some [v]

def newv (t : TypeId) (v : Value) (H : AHeap) : Option (Value × AHeap) :=
  (flat v).map fun l => (.pointer (some ⟨H.n, 0, none⟩), H.push (.cells l t true))

def zero? (P : Program) (t : TypeId) : Option Value :=
  match P.info? t with
  | some i => match i.zero with | some z => if gr 9 z then some z else none | none => none
  | none => none

def xalloc (P : Program) (t : TypeId) (H : AHeap) : Option (Value × AHeap) := (zero? P t).bind fun z => newv t z H

def places (P : Program) : List Field → Option (List (Nat × Nat))
  | [] => some []
  | f :: fs => match P.info? f.type with
    | some i => (places P fs).map fun l => (f.offset, i.size) :: l
    | none => none

def fillX (place : Nat → Option (Nat × Nat)) (cells : Array Value) : List (Nat × Value) → Option (Array Value)
  | [] => some cells
  | (i, v) :: rest =>
    match place i, flat v with
    | some (off, size), some l =>
      if l.length ≠ size || off + l.length > cells.size then none
      else fillX place (l.zipIdx.foldl (fun cs (c, j) => cs.setIfInBounds (off + j) c) cells) rest
    | _, _ => none

/-- A struct or an array out of its zero value and parts. -/
def bldS (z : Array Value) (pl : List (Nat × Nat)) (parts : List (Nat × Value)) : Option Value := (fillX (pl[·]?) z parts).map .agg
def bldA (z : Array Value) (sz : Nat) (parts : List (Nat × Value)) : Option Value := (fillX (fun k => some (k * sz, sz)) z parts).map .agg

def xbuild (P : Program) (t : TypeId) (parts : List (Nat × Value)) : Option Value :=
  match zero? P t, P.underlying t with
  | some (.agg z), some (.struct fs) => (places P fs.toList).bind fun pl => bldS z pl parts
  | some (.agg z), some (.array _ e) => (sizeQ P e).bind fun sz => bldA z sz parts
  | _, _ => none

def zeros (z : List Value) : Nat → List Value
  | 0 => []
  | n + 1 => z ++ zeros z n

/-- The cells of an element's zero value. -/
def zrow (P : Program) (e : TypeId) : Option (List Value) :=
  match P.info? e with
  | some i => match i.zero with
    | some z => if gr 9 z && z.cells.size == i.size && 0 < i.size then some z.cells.toList else none
    | none => none
  | none => none

def bldL (e : TypeId) (z : List Value) (len : Nat) (parts : List (Nat × Value)) (H : AHeap) : Option (Value × AHeap) :=
  (fillX (fun k => some (k * z.length, z.length)) (zeros z len).toArray parts).map fun cs => (.slice (some ⟨H.n, 0, none⟩) len (2 * len), H.push (.cells cs.toList e true))

def xbuildSlice (P : Program) (t : TypeId) (len : Nat) (parts : List (Nat × Value)) (H : AHeap) : Option (Value × AHeap) :=
  match P.underlying t with
  | some (.slice e) => (zrow P e).bind fun z => if len * z.length ≤ 2 ^ 24 then bldL e z len parts H else none
  | _ => none

def mkS (e : TypeId) (z : List Value) (bytes : Nat) (l c : Value) (H : AHeap) : Option (Value × AHeap) :=
  match l, c with
  | .int _ l, .int _ c =>
    if 0 ≤ l ∧ l ≤ c ∧ c * bytes ≤ 140737488355328 ∧ c ≤ 140737488355328 then
      some (.slice (some ⟨H.n, 0, none⟩) l.toNat (2 * c.toNat), H.push (.cells (zeros z c.toNat) e true))
    else none
  | _, _ => none

def xmakeSlice (P : Program) (t : TypeId) (l c : Value) (H : AHeap) : Option (Value × AHeap) :=
  match P.underlying t with
  | some (.slice e) => (zrow P e).bind fun z => mkS e z (P.bytesOf e) l c H
  | _ => none

/-! Numbers, strings, tests -/
def nilTest (P : Program) (t : TypeId) : Value → Value → Option Bool
  | .pointer none, .pointer (some _) | .pointer (some _), .pointer none => match P.underlying t with | some (.pointer _) => some false | _ => none
  | .slice none 0 0, .slice (some _) _ _ | .slice (some _) _ _, .slice none 0 0 => match P.underlying t with | some (.slice _) => some false | _ => none
  | .map none, .map (some _) | .map (some _), .map none => match P.underlying t with | some (.map _ _) => some false | _ => none
  | .nilFunc, .func _ _ _ | .func _ _ _, .nilFunc => match P.underlying t with | some (.func _ _ _) => some false | _ => none
  | .nilIface, .iface _ _ | .iface _ _, .nilIface => match P.underlying t with | some (.interface _) => some false | _ => none
  | _, _ => none

/-- The bytes of a string, and a string of bytes. -/
def bl (s : ByteArray) : List UInt8 := s.data.toList
def mk (l : List UInt8) : ByteArray := ⟨l.toArray⟩

def strOp (op : BinOp) (a b : ByteArray) : Option Value :=
  match op with
  | .add => if (bl a).length + (bl b).length ≤ 4611686018427387904 then some (.string (mk (bl a ++ bl b))) else none
  | .eql => some (.bool (bl a == bl b))
  | .neq => some (.bool !(bl a == bl b))
  | .lss => some (.bool (Op.bytesLess (bl a) (bl b)))
  | .leq => some (.bool (Op.bytesLess (bl a) (bl b) || bl a == bl b))
  | .gtr => some (.bool !(Op.bytesLess (bl a) (bl b) || bl a == bl b))
  | .geq => some (.bool !(Op.bytesLess (bl a) (bl b)))
  | _ => none

def xbin (P : Program) (op : BinOp) (t : TypeId) (ox oy : Operand) (x y : Value) : Option Value :=
  match x, y with
  | .string a, .string b => strOp op a b
  | x, y =>
    if gr 9 x && gr 9 y then pvg P (do eqGuard op t ox oy x y; binOp op t x y)
    else match op with
      | .eql => (nilTest P t x y).map .bool
      | .neq => (nilTest P t x y).map fun b => .bool !b
      | _ => none

def xun (P : Program) (op : UnOp) (x : Value) : Option Value := if gr 9 x then pvg P (Op.unary op x) else none

def byteCell (b : UInt8) : Value := .int .u8 b.toNat

def bytesOf : List Value → Option (List UInt8)
  | [] => some []
  | .int .u8 n :: r => (bytesOf r).map fun l => UInt8.ofNat n.toNat :: l
  | _ :: _ => none

def xconv (P : Program) (src dst : TypeId) (x : Value) (H : AHeap) : Option (Value × AHeap) :=
  match P.underlying src, P.underlying dst, x with
  | some _, some (.slice e), .string s =>
    match P.underlying e with
    | some (.int .u8) => if P.cellsOf e = 1 then some (.slice (some ⟨H.n, 0, none⟩) (bl s).length (2 * (bl s).length + 1), H.push (.cells ((bl s).map byteCell) e true)) else none
    | _ => none
  | some (.slice e), some .string, .slice (some ⟨b, o, none⟩) n _ =>
    match P.underlying e with
    | some (.int .u8) => if n = 0 then some (.string .empty, H) else (cut H b o n).bind fun l => (bytesOf l).map fun s => (.string (mk s), H)
    | _ => none
  | _, _, x => if gr 9 x then (pvg P (convert src dst x)).map fun v => (v, H) else none

/-! Slices -/
def bnd (y : Nat) : Value → Option Nat
  | .int _ i => if 0 ≤ i ∧ i ≤ y then some i.toNat else none
  | _ => none

def lowOf (h : Nat) : Option Value → Option Nat
  | none => some 0
  | some v => bnd h v

def highOf (y len : Nat) : Option Value → Option Nat
  | none => some len
  | some v => bnd y v

/-- A block of elements of type e that may be written. -/
def rowOf (e : TypeId) : Blk → Bool
  | .cells _ e' true => e' == e
  | _ => false

def slS (e : TypeId) (sz : Nat) (x : Value) (lo hi mx : Option Value) (H : AHeap) : Option Value :=
  match x with
  | .slice (some ⟨b, o, none⟩) len code =>
    let c := code / 2
    match mx, hi with
    | some m, some h => (bnd c m).bind fun m => (bnd m h).bind fun h => (lowOf h lo).map fun l =>
        .slice (some ⟨b, if m = l then o else o + l * sz, none⟩) (h - l) (2 * (m - l))
    | none, hi => (highOf c len hi).bind fun h => (lowOf h lo).bind fun l =>
        if h ≤ c then
          (if code % 2 = 0 then some (.slice (some ⟨b, if c = l then o else o + l * sz, none⟩) (h - l) (2 * (c - l)))
          else if rowOf e (H.f b) then some (.slice (some ⟨b, o + l * sz, none⟩) (h - l) (2 * (c - l) + 1)) else none)
        else none
    | _, _ => none
  | .slice none 0 0 =>
    match mx, hi with
    | some m, some h => (bnd 0 m).bind fun m => (bnd m h).bind fun h => (lowOf h lo).map fun _ => .slice none 0 0
    | none, hi => (highOf 0 0 hi).bind fun h => (lowOf h lo).map fun _ => .slice none 0 0
    | _, _ => none
  | _ => none

def slA (n sz : Nat) (x : Value) (lo hi : Option Value) : Option Value :=
  match x with
  | .pointer (some ⟨b, o, none⟩) => (highOf n n hi).bind fun h => (lowOf h lo).map fun l =>
        .slice (some ⟨b, if n = l then o else o + l * sz, none⟩) (h - l) (2 * (n - l))
  | _ => none

def slT (x : Value) (lo hi : Option Value) : Option Value :=
  match x with
  | .string s => (highOf (bl s).length (bl s).length hi).bind fun h => (lowOf h lo).map fun l => .string (mk (((bl s).take h).drop l))
  | _ => none

def xslice (P : Program) (t : TypeId) (x : Value) (lo hi mx : Option Value) (H : AHeap) : Option Value :=
  match P.underlying t with
  | some (.slice e) => (sizeQ P e).bind fun sz => slS e sz x lo hi mx H
  | some (.array n e) => (sizeQ P e).bind fun sz => match mx with | some _ => none | none => slA n sz x lo hi
  | some .string => match mx with | some _ => none | none => slT x lo hi
  | _ => none

def ixS (sz : Nat) (x i : Value) : Option Value :=
  match x, i with
  | .slice (some ⟨b, o, none⟩) len _, .int _ i => if 0 ≤ i ∧ i < len then some (.pointer (some ⟨b, o + i.toNat * sz, none⟩)) else none
  | _, _ => none

def ixA (n sz : Nat) (x i : Value) : Option Value :=
  match x, i with
  | .pointer (some ⟨b, o, none⟩), .int _ i => if 0 ≤ i ∧ i < n then some (.pointer (some ⟨b, o + i.toNat * sz, none⟩)) else none
  | _, _ => none

def xindexAddr (P : Program) (t : TypeId) (x i : Value) : Option Value :=
  match P.underlying t with
  | some (.slice e) => (sizeQ P e).bind fun sz => ixS sz x i
  | some (.array n e) => (sizeQ P e).bind fun sz => ixA n sz x i
  | _ => none

def prt1 (off : Nat) (x : Value) : Option Value := match x with | .agg cs => cs[off]? | _ => none
def prtN (n off : Nat) (x : Value) : Option Value := match x with | .agg cs => some (.agg (cs.extract off (off + n))) | _ => none

def xpart (P : Program) (t : TypeId) (x : Value) (off : Nat) : Option Value :=
  match row? P t with
  | some true => prtN (P.cellsOf t) off x
  | some false => prt1 off x
  | none => none

def xindex (P : Program) (t : TypeId) (x i : Value) : Option Value :=
  match P.underlying t, i with
  | some (.array len e), .int _ i => (sizeQ P e).bind fun sz => if 0 ≤ i ∧ i < len then xpart P e x (i.toNat * sz) else none
  | some .string, .int _ i => match x with | .string s => if 0 ≤ i then ((bl s)[i.toNat]?).map byteCell else none | _ => none
  | _, _ => none

def xfield (P : Program) (t : TypeId) (x : Value) (f : Nat) : Option Value :=
  match P.underlying t with
  | some (.struct fs) => match fs[f]? with | some f => xpart P f.type x f.offset | none => none
  | _ => none

def fad (off : Nat) (x : Value) : Option Value := match x with | .pointer (some ⟨b, o, none⟩) => some (.pointer (some ⟨b, o + off, none⟩)) | _ => none

def xfieldAddr (P : Program) (t : TypeId) (x : Value) (f : Nat) : Option Value :=
  match P.underlying t with
  | some (.struct fs) => match fs[f]? with
    | some f => if P.cellsOf f.type = 0 then none else fad f.offset x
    | none => none
  | _ => none

def xextract (x : Value) (i : Nat) : Option Value :=
  match x with
  | .tuple vs => vs[i]?
  | _ => none

/-! append, copy, clear, len -/
/-- What is appended: how many elements, and their cells. -/
def srcS (sz : Nat) (x : Value) (H : AHeap) : Option (Nat × List Value) :=
  match x with
  | .slice none 0 0 => some (0, [])
  | .slice (some ⟨b, o, none⟩) n _ => if n = 0 then some (0, []) else (cut H b o (n * sz)).map fun l => (n, l)
  | _ => none
def srcT (x : Value) : Option (Nat × List Value) := match x with | .string s => some ((bl s).length, (bl s).map byteCell) | _ => none
def srcZ (z : List Value) (bytes : Nat) (x : Value) : Option (Nat × List Value) :=
  match x with
  | .int .i64 n => if 0 ≤ n ∧ n * bytes ≤ 140737488355328 ∧ n ≤ 140737488355328 then some (n.toNat, zeros z n.toNat) else none
  | _ => none

def srcOf (P : Program) (e : TypeId) (z : List Value) (tx : TypeId) (x : Value) (H : AHeap) : Option (Nat × List Value) :=
  match P.underlying tx with
  | some (.slice _) => srcS z.length x H
  | some .string => if z.length = 1 then srcT x else none
  | some (.int _) => srcZ z (P.bytesOf e) x
  | _ => none

def oldOf (sz : Nat) (n : Nat) (H : AHeap) (base : Option Addr) : Option (List Value) :=
  if n = 0 then some [] else
  match base with
  | some ⟨b, o, none⟩ => cut H b o (n * sz)
  | _ => none

def kill (H : AHeap) (e : TypeId) (c sz : Nat) : Option Addr → Option AHeap
  | some ⟨b, o, none⟩ => match H.f b with
    | .cells xs e' true => if e' = e ∧ o + c * sz = xs.length then some (H.set b .dead) else none
    | _ => none
  | _ => none

/-- append: 'src' is what is appended. -/
def app (e : TypeId) (sz bytes : Nat) (s : Value) (src : Option (Nat × List Value)) (H : AHeap) : Option (Value × AHeap) :=
  match s with
  | .slice base len code =>
    src.bind fun r =>
      if r.1 = 0 then some (s, H)
      else if (len + r.1) * bytes > 140737488355328 ∨ len + r.1 > 140737488355328 then none
      else if len + r.1 ≤ code / 2 then
        (match base with
        | some ⟨b, o, none⟩ => (stL H b (o + len * sz) r.2).map fun H' => (.slice base (len + r.1) code, H')
        | _ => none)
      else if r.2.all one = false then none
      else (oldOf sz len H base).bind fun old =>
        ((if code % 2 = 0 then some H else kill H e (code / 2) sz base) : Option AHeap).map fun H' =>
          (.slice (some ⟨H'.n, 0, none⟩) (len + r.1) (2 * (len + r.1) + 1), H'.push (.cells (old ++ r.2) e true))
  | _ => none

def xappend (P : Program) (ts : List TypeId) (s x : Value) (H : AHeap) : Option (Value × AHeap) :=
  match ts with
  | [t, tx] =>
    match P.underlying t with
    | some (.slice e) => (zrow P e).bind fun z => app e z.length (P.bytesOf e) s (srcOf P e z tx x H) H
    | _ => none
  | _ => none

def cpy (sz : Nat) (d s : Value) (H : AHeap) : Option (Value × AHeap) :=
  match d, s with
  | .slice base dl _, .slice sb sl _ =>
    if Nat.min sl dl = 0 then some (goInt 0, H) else
    (match sb, base with
    | some ⟨b', o', none⟩, some ⟨b, o, none⟩ => (cut H b' o' (Nat.min sl dl * sz)).bind fun l => (stL H b o l).map fun H' => (goInt (Nat.min sl dl), H')
    | _, _ => none)
  | _, _ => none

def xcopy (P : Program) (ts : List TypeId) (d s : Value) (H : AHeap) : Option (Value × AHeap) :=
  match ts with
  | [] => none
  | t :: _ =>
    match P.underlying t with
    | some (.slice e) => (sizeQ P e).bind fun sz => cpy sz d s H
    | _ => none

/-! Maps -/
def keq : Value → Value → Bool
  | .int k a, .int k' b => k == k' && a == b
  | .string a, .string b => a == b
  | .bool a, .bool b => a == b
  | _, _ => false

def keyOk : TypeDesc → Value → Bool
  | .int k, .int k' _ => k == k'
  | .string, .string _ => true
  | .bool, .bool _ => true
  | _, _ => false

def keyDesc (P : Program) (t : TypeId) : Option TypeDesc :=
  match P.underlying t with
  | some (.int k) => some (.int k)
  | some .string => some .string
  | some .bool => some .bool
  | _ => none

def mget (es : List (Value × Value)) (k : Value) : Option Value := (es.find? fun p => keq k p.1).map (·.2)
def mput (es : List (Value × Value)) (k v : Value) : List (Value × Value) :=
  if es.any (fun p => keq k p.1) then es.map fun p => if keq k p.1 then (p.1, v) else p else es ++ [(k, v)]
def mdel (es : List (Value × Value)) (k : Value) : List (Value × Value) := es.filter fun p => !keq k p.1

/-- The entries of a map whose keys are of the right kind. -/
def entries (d : TypeDesc) (H : AHeap) : Value → Option (List (Value × Value))
  | .map none => some []
  | .map (some b) => match H.f b with
    | .map es => if es.all fun p => keyOk d p.1 then some es else none
    | _ => none
  | _ => none

def xlookup (P : Program) (t : TypeId) (m k : Value) (ok : Bool) (H : AHeap) : Option Value :=
  match P.underlying t with
  | some (.map kt e) => match keyDesc P kt, zero? P e with
    | some d, some z => if keyOk d k then (entries d H m).map fun es =>
        (match mget es k with
        | some v => if ok then .tuple #[v, .bool true] else v
        | none => if ok then .tuple #[z, .bool false] else z) else none
    | _, _ => none
  | _ => none

def xmapUpdate (P : Program) (t : TypeId) (m k v : Value) (H : AHeap) : Option AHeap :=
  match P.underlying t, m with
  | some (.map kt _), .map (some b) => match keyDesc P kt with
    | some d => if keyOk d k then (entries d H m).map fun es => H.set b (.map (mput es k v)) else none
    | none => none
  | _, _ => none

def xdelete (P : Program) (ts : List TypeId) (m k : Value) (H : AHeap) : Option (Value × AHeap) :=
  match ts with
  | [] => none
  | t :: _ => match P.underlying t with
    | some (.map kt _) => match keyDesc P kt with
      | some d => if keyOk d k then (match m with
        | .map none => some (.tuple #[], H)
        | .map (some b) => (entries d H m).map fun es => (.tuple #[], H.set b (.map (mdel es k)))
        | _ => none) else none
      | none => none
    | _ => none

def xlen (P : Program) (ts : List TypeId) (x : Value) : Option Value :=
  match ts with
  | [] => none
  | t :: _ => match P.underlying t, x with
    | some .string, .string s => some (goInt (bl s).length)
    | some (.slice _), .slice _ n _ => some (goInt n)
    | some (.array n _), _ => some (goInt n)
    | _, _ => none

/-- The capacity, where it is known. -/
def xcap (P : Program) (ts : List TypeId) (x : Value) : Option Value :=
  match ts with
  | [] => none
  | t :: _ => match P.underlying t, x with
    | some (.slice _), .slice none 0 0 => some (goInt 0)
    | some (.slice _), .slice (some ⟨_, _, none⟩) _ code => if code % 2 = 0 then some (goInt (code / 2)) else none
    | _, _ => none

def xclear (P : Program) (ts : List TypeId) (x : Value) (H : AHeap) : Option (Value × AHeap) :=
  match ts with
  | [] => none
  | t :: _ => match P.underlying t, x with
    | some (.slice _), .slice none 0 0 => some (.tuple #[], H)
    | some (.slice e), .slice (some ⟨b, o, none⟩) n _ =>
      if n = 0 then some (.tuple #[], H) else (zrow P e).bind fun z => (stL H b o (zeros z n)).map fun H' => (.tuple #[], H')
    | _, _ => none

def xmakeMap (P : Program) (t : TypeId) (r : Option Value) (H : AHeap) : Option (Value × AHeap) :=
  match P.underlying t, r with
  | some (.map _ _), none | some (.map _ _), some (.int _ _) => some (.map (some H.n), H.push (.map []))
  | _, _ => none

def xnilCheck : Value → Option Value
  | .pointer (some a) => some (.pointer (some a))
  | .func (.func f) x c => some (.func (.func f) x c)
  | _ => none

/-! One operation -/
inductive DNext where
  | val (v : Value) (H : AHeap)
  | enter (f : FuncId) (args : List Value)

def bare (o : Option Value) (H : AHeap) : Option DNext := o.map fun v => .val v H
def both (o : Option (Value × AHeap)) : Option DNext := o.map fun r => .val r.1 r.2
def quiet (o : Option AHeap) : Option DNext := o.map fun H => .val undef H

def xbuiltin (P : Program) (b : Builtin) (ts : List TypeId) (args : List Value) (H : AHeap) : Option DNext :=
  match b, args with
  | .append, [s, x] => both (xappend P ts s x H)
  | .len, [x] => bare (xlen P ts x) H
  | .copy, [d, s] => both (xcopy P ts d s H)
  | .clear, [x] => both (xclear P ts x H)
  | .min, [.string a, .string b] => some (.val (.string (if Op.bytesLess (bl a) (bl b) || bl a == bl b then a else b)) H)
  | .max, [.string a, .string b] => some (.val (.string (if !(Op.bytesLess (bl a) (bl b)) then a else b)) H)
  | .min, args => if args.all (gr 9) then bare (pvg P (Builtin.min_ #[] 0 args.toArray)) H else none
  | .max, args => if args.all (gr 9) then bare (pvg P (Builtin.max_ #[] 0 args.toArray)) H else none
  | .cap, [x] => bare (xcap P ts x) H
  | _, _ => none

/-- The name stands in none of the model's own tables. -/
def noRow (n : String) : Bool := (Extern.allGenericRows.lookup n).isNone && (Extern.allTypedRows.lookup n).isNone && (Extern.allRows.lookup n).isNone && (Extern.allNextRows.lookup n).isNone

/-- The model's own entries that are served. -/
def xext (P : Program) (fn : Func) (args : List Value) (H : AHeap) : Option Value :=
  match args with
  | [.string a, .string b] => if fn.name = "internal/bytealg.abigen_runtime_cmpstring" ∧ fn.origin = "" then some (.int .i64 (Lib.compareBytes (bl a) (bl b))) else none
  | [.slice (some ⟨b, o, none⟩) la _, .slice (some ⟨b', _, none⟩) lb _] =>
    if fn.origin = "slices.overlaps" ∧ noRow fn.name = true ∧ la ≠ 0 ∧ lb ≠ 0 then
      match H.f b, H.f b', fn.params.toList with
      | .cells xs e true, .cells (_ :: _) _ _, [t, t'] =>
        match P.underlying t with
        | some (.slice el) => if b ≠ b' ∧ t = t' ∧ tailQ P e = 1 ∧ (sizeQ P el).isSome = true ∧ o ≤ xs.length then some (.bool false) else none
        | _ => none
      | _, _, _ => none
    else none
  | _ => none

def xcall (P : Program) (f : Value) (args : List Value) (H : AHeap) : Option DNext :=
  match f with
  | .func (.func g) x c => match P.funcs[g]? with
    | some fn => if fn.name = "runtime.NumGoroutine" then none
      else if fn.body.isSome then some (.enter g (x.toList ++ args ++ c.toList))
      else bare (xext P fn (x.toList ++ args ++ c.toList) H) H
    | none => none
  | _ => none

def dOp (P : Program) (ρ : Operand → Value) (o : Op) (H : AHeap) : Option DNext :=
  match o with
  | .move x | .assign x => some (.val (ρ x) H)
  | .pick c a b => match ρ c with | .bool c => some (.val (if c then ρ a else ρ b) H) | _ => none
  | .alloc t => both (xalloc P t H)
  | .box t x => both (newv t (ρ x) H)
  | .build t parts => bare (xbuild P t (parts.toList.map fun p => (p.1, ρ p.2))) H
  | .buildSlice t len parts => both (xbuildSlice P t len (parts.toList.map fun p => (p.1, ρ p.2)) H)
  | .load t a => bare (xload P t (ρ a) H) H
  | .store t a x => quiet (xstore P t (ρ a) (ρ x) H)
  | .nilCheck x => bare (xnilCheck (ρ x)) H
  | .binOp op t x y _ => bare (xbin P op t x y (ρ x) (ρ y)) H
  | .unOp op _ x => bare (xun P op (ρ x)) H
  | .convert src dst x => both (xconv P src dst (ρ x) H)
  | .makeInterface t x => if (match P.underlying t with | some (.interface _) | none => false | _ => true) then some (.val (.iface t (ρ x)) H) else none
  | .makeFunc (.func f) x c => some (.val (.func (.func f) (x.map ρ) (c.map ρ)) H)
  | .makeSlice t l c => both (xmakeSlice P t (ρ l) (ρ c) H)
  | .slice t x lo hi mx => bare (xslice P t (ρ x) (lo.map ρ) (hi.map ρ) (mx.map ρ) H) H
  | .fieldAddr t x f => bare (xfieldAddr P t (ρ x) f) H
  | .field t x f => bare (xfield P t (ρ x) f) H
  | .indexAddr t x i => bare (xindexAddr P t (ρ x) (ρ i)) H
  | .index t x i => bare (xindex P t (ρ x) (ρ i)) H
  | .extract x i => bare (xextract (ρ x) i) H
  | .call c => match c.callee with
    | .builtin b => xbuiltin P b c.argTypes.toList (c.args.toList.map ρ) H
    | .value f => xcall P (ρ f) (c.args.toList.map ρ) H
    | .invoke _ _ => none
  | _ => none

end Go.Proofs.Ytlagijfkkpbbnaa.Eng
