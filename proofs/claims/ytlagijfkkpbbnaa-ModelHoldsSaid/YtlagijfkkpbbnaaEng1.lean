/-
  The engine, part 1: an abstract heap without capacities, tapes and block numbers; how it stands to the model's world ('Rel'); what a step may change ('Stp').
  Conditions: none. By an AI agent.
-/
import GoSem.Step
import GoSem.ClaimChange
import Derived.Calls
import Derived.Laws.Sem
import Derived.Laws.World
import Derived.Laws.Entries
import Derived.Laws.Cells
import Derived.Laws.Append
import Derived.Laws.Small
import Derived.Below
namespace Go.Proofs.Ytlagijfkkpbbnaa.Eng
open Go

/-- Where an abstract block lies: the concrete block, the cell at which it begins, the cells of an element, all cells of the concrete block. -/
structure Loc where
  cb : Nat
  base : Nat
  sz : Nat
  total : Nat

abbrev Emb := Nat → Option Loc

/-- An abstract value and a concrete one. The abstract '.chan none' stands for any value. A slice's abstract capacity is 2c where it is known to be c, 2c+1 where it is at least c. -/
inductive RV (ι : Emb) : Value → Value → Prop
  | unk (c : Value) : RV ι (.chan none) c
  | bool (b : Bool) : RV ι (.bool b) (.bool b)
  | int (k : IntKind) (n : Int) : RV ι (.int k n) (.int k n)
  | flo (k : FloatKind) (n : Nat) : RV ι (.float k n) (.float k n)
  | str (s : ByteArray) : RV ι (.string s) (.string s)
  | nilp : RV ι (.pointer none) (.pointer none)
  | ptr {b o : Nat} {L : Loc} (h : ι b = some L) : RV ι (.pointer (some ⟨b, o, none⟩)) (.pointer (some ⟨L.cb, L.base + o, none⟩))
  | nils : RV ι (.slice none 0 0) (.slice none 0 0)
  | sle {b o n c : Nat} {L : Loc} (h : ι b = some L) (hn : n ≤ c) : RV ι (.slice (some ⟨b, o, none⟩) n (2 * c)) (.slice (some ⟨L.cb, L.base + o, none⟩) n c)
  | sli {b o n c cc : Nat} {L : Loc} (h : ι b = some L) (hc : c ≤ cc) (hn : n ≤ cc) (ht : L.base + o + cc * L.sz = L.total) :
      RV ι (.slice (some ⟨b, o, none⟩) n (2 * c + 1)) (.slice (some ⟨L.cb, L.base + o, none⟩) n cc)
  | sl0 {a a' : Addr} {k : Nat} (hk : k ≤ 1) : RV ι (.slice (some a) 0 k) (.slice (some a') 0 0)
  | nilm : RV ι (.map none) (.map none)
  | map {b : Nat} {L : Loc} (h : ι b = some L) : RV ι (.map (some b)) (.map (some L.cb))
  | func {f : FuncId} {x x' c c' : Array Value} (h1 : x.size = x'.size) (h2 : ∀ (i : Nat) (v v' : Value), x[i]? = some v → x'[i]? = some v' → RV ι v v')
      (h3 : c.size = c'.size) (h4 : ∀ (i : Nat) (v v' : Value), c[i]? = some v → c'[i]? = some v' → RV ι v v') : RV ι (.func (.func f) x c) (.func (.func f) x' c')
  | nilfn : RV ι .nilFunc .nilFunc
  | nili : RV ι .nilIface .nilIface
  | iface {t : TypeId} {v v' : Value} (h : RV ι v v') : RV ι (.iface t v) (.iface t v')
  | agg {x x' : Array Value} (h1 : x.size = x'.size) (h2 : ∀ (i : Nat) (v v' : Value), x[i]? = some v → x'[i]? = some v' → RV ι v v') : RV ι (.agg x) (.agg x')
  | tup {x x' : Array Value} (h1 : x.size = x'.size) (h2 : ∀ (i : Nat) (v v' : Value), x[i]? = some v → x'[i]? = some v' → RV ι v v') : RV ι (.tuple x) (.tuple x')

theorem RV.mono {ι ι' : Emb} (hι : ∀ b L, ι b = some L → ι' b = some L) {v v' : Value} (h : RV ι v v') : RV ι' v v' := by
  induction h with
  | unk c => exact .unk c
  | bool b => exact .bool b
  | int k n => exact .int k n
  | flo k n => exact .flo k n
  | str s => exact .str s
  | nilp => exact .nilp
  | ptr h => exact .ptr (hι _ _ h)
  | nils => exact .nils
  | sle h hn => exact .sle (hι _ _ h) hn
  | sli h hc hn ht => exact .sli (hι _ _ h) hc hn ht
  | sl0 hk => exact .sl0 hk
  | nilm => exact .nilm
  | map h => exact .map (hι _ _ h)
  | func h1 _ h3 _ i2 i4 => exact .func h1 i2 h3 i4
  | nilfn => exact .nilfn
  | nili => exact .nili
  | iface _ ih => exact .iface ih
  | agg h1 _ i2 => exact .agg h1 i2
  | tup h1 _ i2 => exact .tup h1 i2

/-- Lists of values, one by one. -/
inductive RVs (ι : Emb) : List Value → List Value → Prop
  | nil : RVs ι [] []
  | cons {v v' : Value} {l l' : List Value} (h : RV ι v v') (t : RVs ι l l') : RVs ι (v :: l) (v' :: l')

theorem RVs.mono {ι ι' : Emb} (hι : ∀ b L, ι b = some L → ι' b = some L) {l l' : List Value} (h : RVs ι l l') : RVs ι' l l' := by
  induction h with
  | nil => exact .nil
  | cons h _ ih => exact .cons (h.mono hι) ih

theorem RVs.length {ι : Emb} {l l' : List Value} (h : RVs ι l l') : l.length = l'.length := by
  induction h with
  | nil => rfl
  | cons _ _ ih => simp [ih]

theorem RVs.get {ι : Emb} {l l' : List Value} (h : RVs ι l l') : ∀ {i : Nat} {v : Value}, l[i]? = some v → ∃ v', l'[i]? = some v' ∧ RV ι v v' := by
  induction h with
  | nil => intro i v hv; simp at hv
  | cons h _ ih =>
    intro i v hv
    cases i with
    | zero => simp at hv; subst hv; exact ⟨_, by simp, h⟩
    | succ i => simpa using ih (by simpa using hv)

theorem RVs.of_get {ι : Emb} : ∀ {l l' : List Value}, l.length = l'.length → (∀ (i : Nat) (v v' : Value), l[i]? = some v → l'[i]? = some v' → RV ι v v') → RVs ι l l'
  | [], [], _, _ => .nil
  | v :: l, v' :: l', hl, h => .cons (h 0 v v' (by simp) (by simp)) (RVs.of_get (by simpa using hl) fun i a b ha hb => h (i + 1) a b (by simpa using ha) (by simpa using hb))
  | [], _ :: _, hl, _ => by simp at hl
  | _ :: _, [], hl, _ => by simp at hl

theorem RVs.append {ι : Emb} {a a' b b' : List Value} (h : RVs ι a a') (k : RVs ι b b') : RVs ι (a ++ b) (a' ++ b') := by
  induction h with
  | nil => exact k
  | cons h _ ih => exact .cons h ih

theorem RVs.take {ι : Emb} {a a' : List Value} (h : RVs ι a a') (n : Nat) : RVs ι (a.take n) (a'.take n) := by
  induction h generalizing n with
  | nil => simp; exact .nil
  | cons h _ ih => cases n with
    | zero => simp; exact .nil
    | succ n => simp only [List.take_succ_cons]; exact .cons h (ih n)

theorem RVs.drop {ι : Emb} {a a' : List Value} (h : RVs ι a a') (n : Nat) : RVs ι (a.drop n) (a'.drop n) := by
  induction h generalizing n with
  | nil => simp; exact .nil
  | cons h t ih => cases n with
    | zero => simp; exact .cons h t
    | succ n => simp only [List.drop_succ_cons]; exact ih n

theorem RVs.toArr {ι : Emb} {a a' : List Value} (h : RVs ι a a') : ∀ (i : Nat) (v v' : Value), a.toArray[i]? = some v → a'.toArray[i]? = some v' → RV ι v v' := by
  intro i v v' hv hv'
  obtain ⟨u, hu, hr⟩ := h.get (i := i) (v := v) (by simpa using hv)
  simp at hv'
  rw [hv'] at hu
  cases hu
  exact hr

theorem RVs.of_arr {ι : Emb} {x x' : Array Value} (h1 : x.size = x'.size) (h2 : ∀ (i : Nat) (v v' : Value), x[i]? = some v → x'[i]? = some v' → RV ι v v') : RVs ι x.toList x'.toList :=
  RVs.of_get (by simpa using h1) fun i a b ha hb => h2 i a b (by simpa using ha) (by simpa using hb)

theorem RVs.agg {ι : Emb} {a a' : List Value} (h : RVs ι a a') : RV ι (.agg a.toArray) (.agg a'.toArray) := .agg (by simpa using h.length) h.toArr
theorem RVs.tup {ι : Emb} {a a' : List Value} (h : RVs ι a a') : RV ι (.tuple a.toArray) (.tuple a'.toArray) := .tup (by simpa using h.length) h.toArr

/-- Values that name no memory: each stands for itself alone. -/
def gr : Nat → Value → Bool
  | 0, _ => false
  | n + 1, v =>
    match v with
    | .bool _ | .int _ _ | .float _ _ | .string _ => true
    | .pointer none | .map none | .nilFunc | .nilIface => true
    | .slice none 0 0 => true
    | .func (.func _) x c => x.toList.all (gr n) && c.toList.all (gr n)
    | .iface _ v => gr n v
    | .agg cs => cs.toList.all (gr n)
    | .tuple vs => vs.toList.all (gr n)
    | _ => false

theorem gr_arr {ι : Emb} {n : Nat} (ih : ∀ {v v' : Value}, gr n v = true → RV ι v v' → v' = v) {x x' : Array Value} (hg : x.toList.all (gr n) = true) (h1 : x.size = x'.size)
    (h2 : ∀ (i : Nat) (v v' : Value), x[i]? = some v → x'[i]? = some v' → RV ι v v') : x' = x := by
  apply Array.ext h1.symm
  intro i hi hi'
  have hm : gr n x[i] = true := List.all_eq_true.1 hg _ (by simp)
  exact ih hm (h2 i _ _ (Array.getElem?_eq_getElem hi') (Array.getElem?_eq_getElem hi))

theorem gr_eq {ι : Emb} : ∀ {n : Nat} {v v' : Value}, gr n v = true → RV ι v v' → v' = v
  | 0, _, _, h, _ => by simp [gr] at h
  | n + 1, v, v', hg, h => by
    have ih : ∀ {v v' : Value}, gr n v = true → RV ι v v' → v' = v := fun a b => gr_eq a b
    cases h with
    | unk c => simp [gr] at hg
    | bool b => rfl
    | int k m => rfl
    | flo k m => rfl
    | str s => rfl
    | nilp => rfl
    | ptr h => simp [gr] at hg
    | nils => rfl
    | sle h => simp [gr] at hg
    | sli h => simp [gr] at hg
    | sl0 => simp [gr] at hg
    | nilm => rfl
    | map h => simp [gr] at hg
    | func h1 h2 h3 h4 =>
      simp only [gr, Bool.and_eq_true] at hg
      rw [gr_arr ih hg.1 h1 h2, gr_arr ih hg.2 h3 h4]
    | nilfn => rfl
    | nili => rfl
    | iface h => simp only [gr] at hg; rw [ih hg h]
    | agg h1 h2 => simp only [gr] at hg; rw [gr_arr ih hg h1 h2]
    | tup h1 h2 => simp only [gr] at hg; rw [gr_arr ih hg h1 h2]

theorem gr_rel {ι : Emb} : ∀ {n : Nat} {v : Value}, gr n v = true → RV ι v v
  | 0, _, h => by simp [gr] at h
  | n + 1, v, hg => by
    have ih : ∀ {v : Value}, gr n v = true → RV ι v v := fun a => gr_rel a
    have arr : ∀ {x : Array Value}, x.toList.all (gr n) = true → ∀ (i : Nat) (v v' : Value), x[i]? = some v → x[i]? = some v' → RV ι v v' := by
      intro x hx i v v' h1 h2
      rw [h1] at h2
      cases h2
      exact ih (List.all_eq_true.1 hx _ (by simpa using Array.mem_of_getElem? h1))
    cases v with
    | bool b => exact .bool b
    | int k m => exact .int k m
    | float k m => exact .flo k m
    | complex => simp [gr] at hg
    | string s => exact .str s
    | pointer a => cases a with
      | none => exact .nilp
      | some a => simp [gr] at hg
    | slice a l c =>
      cases a with
      | none =>
        cases l with
        | zero => cases c with
          | zero => exact .nils
          | succ c => simp [gr] at hg
        | succ l => simp [gr] at hg
      | some a => simp [gr] at hg
    | map r => cases r with
      | none => exact .nilm
      | some r => simp [gr] at hg
    | chan => simp [gr] at hg
    | func fn x c =>
      cases fn with
      | func f =>
        simp only [gr, Bool.and_eq_true] at hg
        exact .func rfl (arr hg.1) rfl (arr hg.2)
      | _ => simp [gr] at hg
    | nilFunc => exact .nilfn
    | iface t v => simp only [gr] at hg; exact .iface (ih hg)
    | nilIface => exact .nili
    | agg cs => simp only [gr] at hg; exact .agg rfl (arr hg)
    | tuple cs => simp only [gr] at hg; exact .tup rfl (arr hg)

/-! ### The abstract heap -/

inductive Blk where
  | dead
  | cells (xs : List Value) (elem : TypeId) (rw : Bool)
  | map (es : List (Value × Value))
  | siter (s : ByteArray) (pos : Nat)

/-- Blocks 0 to n-1; each has a stamp, which a write makes new. -/
structure AHeap where
  n : Nat
  clk : Nat
  f : Nat → Blk
  ver : Nat → Nat

def AHeap.push (H : AHeap) (k : Blk) : AHeap := ⟨H.n + 1, H.clk, fun b => if b = H.n then k else H.f b, fun b => if b = H.n then 0 else H.ver b⟩
def AHeap.set (H : AHeap) (b : Nat) (k : Blk) : AHeap := ⟨H.n, H.clk + 1, fun c => if c = b then k else H.f c, fun c => if c = b then H.clk else H.ver c⟩

@[simp] theorem AHeap.push_n (H : AHeap) (k : Blk) : (H.push k).n = H.n + 1 := rfl
@[simp] theorem AHeap.set_n (H : AHeap) (b : Nat) (k : Blk) : (H.set b k).n = H.n := rfl
@[simp] theorem AHeap.push_clk (H : AHeap) (k : Blk) : (H.push k).clk = H.clk := rfl
@[simp] theorem AHeap.set_clk (H : AHeap) (b : Nat) (k : Blk) : (H.set b k).clk = H.clk + 1 := rfl
@[simp] theorem AHeap.push_new (H : AHeap) (k : Blk) : (H.push k).f H.n = k := by simp [AHeap.push]
theorem AHeap.push_old (H : AHeap) (k : Blk) {b : Nat} (h : b ≠ H.n) : (H.push k).f b = H.f b := by simp [AHeap.push, h]
@[simp] theorem AHeap.set_same (H : AHeap) (b : Nat) (k : Blk) : (H.set b k).f b = k := by simp [AHeap.set]
theorem AHeap.set_other (H : AHeap) {b c : Nat} (k : Blk) (h : c ≠ b) : (H.set b k).f c = H.f c := by simp [AHeap.set, h]
theorem AHeap.push_ver (H : AHeap) (k : Blk) {b : Nat} (h : b ≠ H.n) : (H.push k).ver b = H.ver b := by simp [AHeap.push, h]
@[simp] theorem AHeap.push_ver_new (H : AHeap) (k : Blk) : (H.push k).ver H.n = 0 := by simp [AHeap.push]
theorem AHeap.set_ver (H : AHeap) {b c : Nat} (k : Blk) (h : c ≠ b) : (H.set b k).ver c = H.ver c := by simp [AHeap.set, h]
@[simp] theorem AHeap.set_ver_same (H : AHeap) (b : Nat) (k : Blk) : (H.set b k).ver b = H.clk := by simp [AHeap.set]

/-- A block that may be written. -/
def owned : Blk → Bool
  | .cells _ _ rw => rw
  | .map _ => true
  | .siter _ _ => true
  | .dead => false

def alive : Blk → Bool
  | .dead => false
  | _ => true

/-- What was not written is as it was, and its stamp tells it. -/
structure VO (H H' : AHeap) : Prop where
  n : H.n ≤ H'.n
  clk : H.clk ≤ H'.clk
  old : ∀ b, b < H.n → (H'.ver b = H.ver b ∧ H'.f b = H.f b) ∨ H.clk ≤ H'.ver b
  live : ∀ b, b < H.n → alive (H'.f b) = true → alive (H.f b) = true

theorem VO.refl (H : AHeap) : VO H H := ⟨Nat.le_refl _, Nat.le_refl _, fun _ _ => .inl ⟨rfl, rfl⟩, fun _ _ h => h⟩

theorem VO.trans {H H1 H2 : AHeap} (a : VO H H1) (b : VO H1 H2) : VO H H2 :=
  ⟨Nat.le_trans a.n b.n, Nat.le_trans a.clk b.clk, fun c hc => by
    rcases a.old c hc with ⟨h1, h2⟩ | h1
    · rcases b.old c (Nat.lt_of_lt_of_le hc a.n) with ⟨h3, h4⟩ | h3
      · exact .inl ⟨h3.trans h1, h4.trans h2⟩
      · exact .inr (Nat.le_trans a.clk h3)
    · rcases b.old c (Nat.lt_of_lt_of_le hc a.n) with ⟨h3, h4⟩ | h3
      · exact .inr (by omega)
      · exact .inr (Nat.le_trans a.clk h3), fun c hc h => a.live c hc (b.live c (Nat.lt_of_lt_of_le hc a.n) h)⟩

theorem VO.push (H : AHeap) (k : Blk) : VO H (H.push k) :=
  ⟨by simp, Nat.le_refl _, fun b hb => .inl ⟨H.push_ver k (by omega), H.push_old k (by omega)⟩, fun b hb h => by rwa [H.push_old k (by omega)] at h⟩

theorem VO.set (H : AHeap) (b : Nat) (k : Blk) (hk : alive k = true → alive (H.f b) = true) : VO H (H.set b k) :=
  ⟨Nat.le_refl _, by simp, fun c hc => by
    by_cases h : c = b
    · subst h; exact .inr (by simp)
    · exact .inl ⟨H.set_ver k h, H.set_other k h⟩, fun c hc ha => by
    by_cases h : c = b
    · subst h; exact hk (by simpa using ha)
    · rwa [H.set_other k h] at ha⟩

theorem alive_of_owned {k : Blk} (h : owned k = true) : alive k = true := by cases k <;> simp_all [owned, alive]

/-- A map's entries, in whatever order. -/
structure MapRel (ι : Emb) (es : List (Value × Value)) (ents : Array MapEntry) (clock : Nat) : Prop where
  fwd : ∀ p ∈ es, ∃ e ∈ ents.toList, e.key = p.1 ∧ RV ι p.2 e.val
  bwd : ∀ e ∈ ents.toList, ∃ p ∈ es, p.1 = e.key
  len : ents.size = es.length
  keys : (es.map (·.1)).Nodup
  ckeys : (ents.toList.map (·.key)).Nodup
  born : (ents.toList.map (·.born)).Nodup
  clk : ∀ e ∈ ents.toList, e.born < clock

theorem MapRel.mono {ι ι' : Emb} (hι : ∀ b L, ι b = some L → ι' b = some L) {es : List (Value × Value)} {ents : Array MapEntry} {clock : Nat} (h : MapRel ι es ents clock) : MapRel ι' es ents clock :=
  { h with fwd := fun p hp => let ⟨e, he, hk, hr⟩ := h.fwd p hp; ⟨e, he, hk, hr.mono hι⟩ }

/-- A row of bytes may bear a mark behind its last cell (bytes of a string); no other row does. -/
def tailQ (P : Program) (e : TypeId) : Nat := match P.underlying e with | some (.int .u8) => 0 | _ => 1

/-- What a block of the abstract heap says of the concrete one. -/
def RB (P : Program) (B : Nat) (ι : Emb) (w : World) (L : Loc) : Blk → Prop
  | .dead => True
  | .cells xs e rw => ∃ cs e' fr, w.heap[L.cb]? = some (.cells cs e' fr) ∧ cs.size = L.total ∧ L.base + xs.length ≤ cs.size ∧
      (∀ i v, xs[i]? = some v → ∃ v', cs[L.base + i]? = some v' ∧ RV ι v v') ∧
      (rw = true → B ≤ L.cb ∧ e' = e ∧ L.sz = P.cellsOf e ∧ ∀ j, j < cs.size + tailQ P e → ¬ (fr.1 ≤ j ∧ j < fr.2))
  | .map es => B ≤ L.cb ∧ ∃ ents clock, w.heap[L.cb]? = some (.map ents clock) ∧ MapRel ι es ents clock
  | .siter s pos => B ≤ L.cb ∧ w.heap[L.cb]? = some (.stringIter s pos)

theorem RB.mono {P : Program} {B : Nat} {ι ι' : Emb} {w : World} {L : Loc} (hι : ∀ b L, ι b = some L → ι' b = some L) {k : Blk} (h : RB P B ι w L k) : RB P B ι' w L k := by
  cases k with
  | dead => trivial
  | cells xs e rw =>
    obtain ⟨cs, e', fr, h1, h2, h3, h4, h5⟩ := h
    exact ⟨cs, e', fr, h1, h2, h3, fun i v hv => let ⟨v', a, b⟩ := h4 i v hv; ⟨v', a, b.mono hι⟩, h5⟩
  | map es =>
    obtain ⟨h0, ents, clock, h1, h2⟩ := h
    exact ⟨h0, ents, clock, h1, h2.mono hι⟩
  | siter s pos => exact h

theorem RB.keep {P : Program} {B : Nat} {ι : Emb} {w w' : World} {L : Loc} {k : Blk} (h : RB P B ι w L k) (he : w'.heap[L.cb]? = w.heap[L.cb]?) : RB P B ι w' L k := by
  cases k with
  | dead => trivial
  | cells xs e rw => simpa only [RB, he] using h
  | map es => simpa only [RB, he] using h
  | siter s pos => simpa only [RB, he] using h

structure Rel (P : Program) (B : Nat) (ι : Emb) (H : AHeap) (w : World) : Prop where
  blk : ∀ b L, ι b = some L → RB P B ι w L (H.f b)
  lt : ∀ b L, ι b = some L → b < H.n ∧ L.cb < w.heap.size
  inj : ∀ b c L M, ι b = some L → ι c = some M → b ≠ c → owned (H.f b) = true → alive (H.f c) = true → L.cb ≠ M.cb
  base : B ≤ w.heap.size
  ver : ∀ b, H.ver b < H.clk

/-- What a step may turn. -/
structure Stp (ι : Emb) (H : AHeap) (w : World) (ι' : Emb) (H' : AHeap) (w' : World) : Prop where
  ext : ∀ b, b < H.n → ι' b = ι b
  hn : H.n ≤ H'.n
  wn : w.heap.size ≤ w'.heap.size
  os : w'.os = w.os
  tape : w'.tape = w.tape
  output : w'.output = w.output
  fr : ∀ c, c < w.heap.size → (∀ b L, ι b = some L → owned (H.f b) = true → L.cb ≠ c) → w'.heap[c]? = w.heap[c]?
  new : ∀ b L, H.n ≤ b → ι' b = some L → w.heap.size ≤ L.cb ∨ ∃ b0 L0, b0 < H.n ∧ ι b0 = some L0 ∧ owned (H.f b0) = true ∧ L0.cb = L.cb
  own : ∀ b L, b < H.n → ι b = some L → owned (H'.f b) = true → owned (H.f b) = true
  vo : VO H H'

theorem Stp.refl (ι : Emb) (H : AHeap) (w : World) (hι : ∀ b L, ι b = some L → b < H.n) : Stp ι H w ι H w :=
  ⟨fun _ _ => rfl, Nat.le_refl _, Nat.le_refl _, rfl, rfl, rfl, fun _ _ _ => rfl, fun b L hb h => absurd (hι b L h) (by omega), fun _ _ _ _ h => h, VO.refl _⟩

theorem Stp.trans {ι ι1 ι2 : Emb} {H H1 H2 : AHeap} {w w1 w2 : World} (a : Stp ι H w ι1 H1 w1) (b : Stp ι1 H1 w1 ι2 H2 w2) : Stp ι H w ι2 H2 w2 where
  ext := fun c hc => (b.ext c (Nat.lt_of_lt_of_le hc a.hn)).trans (a.ext c hc)
  hn := Nat.le_trans a.hn b.hn
  wn := Nat.le_trans a.wn b.wn
  os := b.os.trans a.os
  tape := b.tape.trans a.tape
  output := b.output.trans a.output
  fr := fun c hc h => by
    rw [b.fr c (Nat.lt_of_lt_of_le hc a.wn) ?_, a.fr c hc h]
    intro d L hd ho
    by_cases hdn : d < H.n
    · exact h d L (by rw [← a.ext d hdn]; exact hd) (a.own d L hdn (by rw [← a.ext d hdn]; exact hd) ho)
    · rcases a.new d L (by omega) hd with h1 | ⟨b0, L0, hb0, hi, ho0, he⟩
      · omega
      · rw [← he]; exact h b0 L0 hi ho0
  new := fun c L hc h => by
    by_cases hcn : c < H1.n
    · exact a.new c L hc (by rw [← b.ext c hcn]; exact h)
    · rcases b.new c L (by omega) h with h1 | ⟨b0, L0, hb0, hi, ho0, he⟩
      · exact .inl (Nat.le_trans a.wn h1)
      · by_cases hb : b0 < H.n
        · exact .inr ⟨b0, L0, hb, by rw [← a.ext b0 hb]; exact hi, a.own b0 L0 hb (by rw [← a.ext b0 hb]; exact hi) ho0, he⟩
        · rcases a.new b0 L0 (by omega) hi with h2 | ⟨c0, M0, hc0, hi', ho', he'⟩
          · exact .inl (by omega)
          · exact .inr ⟨c0, M0, hc0, hi', ho', he'.trans he⟩
  own := fun c L hc hl h => a.own c L hc hl (b.own c L (Nat.lt_of_lt_of_le hc a.hn) (by rw [a.ext c hc]; exact hl) h)
  vo := a.vo.trans b.vo

theorem Stp.up {ι ι' : Emb} {H H' : AHeap} {w w' : World} (s : Stp ι H w ι' H' w') (hι : ∀ b L, ι b = some L → b < H.n) : ∀ b L, ι b = some L → ι' b = some L :=
  fun b L h => by rw [s.ext b (hι b L h)]; exact h

theorem Rel.dom {P : Program} {B : Nat} {ι : Emb} {H : AHeap} {w : World} (r : Rel P B ι H w) : ∀ b L, ι b = some L → b < H.n := fun b L h => (r.lt b L h).1

/-- Below the first block of the call's own nothing has turned. -/
theorem Stp.below {P : Program} {B : Nat} {ι ι' : Emb} {H H' : AHeap} {w w' : World} (r : Rel P B ι H w) (s : Stp ι H w ι' H' w') : RowKit.Below B w w' where
  os := s.os
  tape := s.tape
  output := s.output
  size := s.wn
  block := fun k hk => s.fr k (Nat.lt_of_lt_of_le hk r.base) fun b L hb ho => by
    have h := r.blk b L hb
    cases hq : H.f b with
    | dead => simp [hq, owned] at ho
    | cells xs e rw =>
      rw [hq] at h ho
      obtain ⟨cs, e', fr, _, _, _, _, h5⟩ := h
      have := (h5 (by simpa [owned] using ho)).1
      omega
    | map es => rw [hq] at h; have := h.1; omega
    | siter t pos => rw [hq] at h; have := h.1; omega

end Go.Proofs.Ytlagijfkkpbbnaa.Eng
