/-
  The engine, contracts and laws: 8 texts in one (merge.py): Eng1 Eng2 Eng3 Eng4 Eng5 Eng6 Eng7 Eng8.
  Conditions: none. By an AI agent.
-/
import GoSem.Step
import GoSem.ClaimChange
import Derived.Calls
import Derived.Laws.Sem
import Derived.Laws.World
import Derived.Laws.Entries
import Derived.Laws.Cells
import Derived.Laws.Append
import Derived.Laws.Small
import Derived.Below
import Derived.Lib.Bytealg
import Derived.Lib.Overlaps
import Derived.Laws.IdiomCopy
import Derived.Laws.Strings
import Derived.Deep.AppendSrc
import Derived.Laws.BytesString
import Derived.Lib.ConvBytes
import Derived.Laws.Externs
import Derived.KernelRfl
import Derived.MapKept
import Derived.Orders
import Derived.LoopN
set_option linter.unusedSimpArgs false
set_option linter.unusedVariables false
set_option linter.unusedSectionVars false
namespace Go.Proofs.YtmiinbhnfojnbaaDoor.Eng
open Go
structure Loc where
  cb : Nat
  base : Nat
  sz : Nat
  total : Nat
abbrev Emb := Nat → Option Loc
inductive RV (ι : Emb) : Value → Value → Prop
  | unk (c : Value) : RV ι (.chan none) c
  | bool (b : Bool) : RV ι (.bool b) (.bool b)
  | int (k : IntKind) (n : Int) : RV ι (.int k n) (.int k n)
  | flo (k : FloatKind) (n : Nat) : RV ι (.float k n) (.float k n)
  | str (s : ByteArray) : RV ι (.string s) (.string s)
  | nilp : RV ι (.pointer none) (.pointer none)
  | ptr {b o : Nat} {L : Loc} (h : ι b = some L) : RV ι (.pointer (some ⟨b, o, none⟩)) (.pointer (some ⟨L.cb, L.base + o, none⟩))
  | nils : RV ι (.slice none 0 0) (.slice none 0 0)
  | sle {b o n c : Nat} {L : Loc} (h : ι b = some L) (hn : n ≤ c) : RV ι (.slice (some ⟨b, o, none⟩) n (2 * c)) (.slice (some ⟨L.cb, L.base + o, none⟩) n c)
  | sli {b o n c cc : Nat} {L : Loc} (h : ι b = some L) (hc : c ≤ cc) (hn : n ≤ cc) (ht : L.base + o + cc * L.sz = L.total) :
      RV ι (.slice (some ⟨b, o, none⟩) n (2 * c + 1)) (.slice (some ⟨L.cb, L.base + o, none⟩) n cc)
  | sl0 {a a' : Addr} {k : Nat} (hk : k ≤ 1) : RV ι (.slice (some a) 0 k) (.slice (some a') 0 0)
  | nilm : RV ι (.map none) (.map none)
  | map {b : Nat} {L : Loc} (h : ι b = some L) : RV ι (.map (some b)) (.map (some L.cb))
  | func {f : FuncId} {x x' c c' : Array Value} (h1 : x.size = x'.size) (h2 : ∀ (i : Nat) (v v' : Value), x[i]? = some v → x'[i]? = some v' → RV ι v v')
      (h3 : c.size = c'.size) (h4 : ∀ (i : Nat) (v v' : Value), c[i]? = some v → c'[i]? = some v' → RV ι v v') : RV ι (.func (.func f) x c) (.func (.func f) x' c')
  | nilfn : RV ι .nilFunc .nilFunc
  | nili : RV ι .nilIface .nilIface
  | iface {t : TypeId} {v v' : Value} (h : RV ι v v') : RV ι (.iface t v) (.iface t v')
  | agg {x x' : Array Value} (h1 : x.size = x'.size) (h2 : ∀ (i : Nat) (v v' : Value), x[i]? = some v → x'[i]? = some v' → RV ι v v') : RV ι (.agg x) (.agg x')
  | tup {x x' : Array Value} (h1 : x.size = x'.size) (h2 : ∀ (i : Nat) (v v' : Value), x[i]? = some v → x'[i]? = some v' → RV ι v v') : RV ι (.tuple x) (.tuple x')
theorem RV.mono {ι ι' : Emb} (hι : ∀ b L, ι b = some L → ι' b = some L) {v v' : Value} (h : RV ι v v') : RV ι' v v' := by
  induction h with
  | unk c => exact .unk c
  | bool b => exact .bool b
  | int k n => exact .int k n
  | flo k n => exact .flo k n
  | str s => exact .str s
  | nilp => exact .nilp
  | ptr h => exact .ptr (hι _ _ h)
  | nils => exact .nils
  | sle h hn => exact .sle (hι _ _ h) hn
  | sli h hc hn ht => exact .sli (hι _ _ h) hc hn ht
  | sl0 hk => exact .sl0 hk
  | nilm => exact .nilm
  | map h => exact .map (hι _ _ h)
  | func h1 _ h3 _ i2 i4 => exact .func h1 i2 h3 i4
  | nilfn => exact .nilfn
  | nili => exact .nili
  | iface _ ih => exact .iface ih
  | agg h1 _ i2 => exact .agg h1 i2
  | tup h1 _ i2 => exact .tup h1 i2
inductive RVs (ι : Emb) : List Value → List Value → Prop
  | nil : RVs ι [] []
  | cons {v v' : Value} {l l' : List Value} (h : RV ι v v') (t : RVs ι l l') : RVs ι (v :: l) (v' :: l')
theorem RVs.mono {ι ι' : Emb} (hι : ∀ b L, ι b = some L → ι' b = some L) {l l' : List Value} (h : RVs ι l l') : RVs ι' l l' := by
  induction h with
  | nil => exact .nil
  | cons h _ ih => exact .cons (h.mono hι) ih
theorem RVs.length {ι : Emb} {l l' : List Value} (h : RVs ι l l') : l.length = l'.length := by
  induction h with
  | nil => rfl
  | cons _ _ ih => simp [ih]
theorem RVs.get {ι : Emb} {l l' : List Value} (h : RVs ι l l') : ∀ {i : Nat} {v : Value}, l[i]? = some v → ∃ v', l'[i]? = some v' ∧ RV ι v v' := by
  induction h with
  | nil => intro i v hv; simp at hv
  | cons h _ ih =>
    intro i v hv
    cases i with
    | zero => simp at hv; subst hv; exact ⟨_, by simp, h⟩
    | succ i => simpa using ih (by simpa using hv)
theorem RVs.of_get {ι : Emb} : ∀ {l l' : List Value}, l.length = l'.length → (∀ (i : Nat) (v v' : Value), l[i]? = some v → l'[i]? = some v' → RV ι v v') → RVs ι l l'
  | [], [], _, _ => .nil
  | v :: l, v' :: l', hl, h => .cons (h 0 v v' (by simp) (by simp)) (RVs.of_get (by simpa using hl) fun i a b ha hb => h (i + 1) a b (by simpa using ha) (by simpa using hb))
  | [], _ :: _, hl, _ => by simp at hl
  | _ :: _, [], hl, _ => by simp at hl
theorem RVs.append {ι : Emb} {a a' b b' : List Value} (h : RVs ι a a') (k : RVs ι b b') : RVs ι (a ++ b) (a' ++ b') := by
  induction h with
  | nil => exact k
  | cons h _ ih => exact .cons h ih
theorem RVs.take {ι : Emb} {a a' : List Value} (h : RVs ι a a') (n : Nat) : RVs ι (a.take n) (a'.take n) := by
  induction h generalizing n with
  | nil => simp; exact .nil
  | cons h _ ih => cases n with
    | zero => simp; exact .nil
    | succ n => simp only [List.take_succ_cons]; exact .cons h (ih n)
theorem RVs.drop {ι : Emb} {a a' : List Value} (h : RVs ι a a') (n : Nat) : RVs ι (a.drop n) (a'.drop n) := by
  induction h generalizing n with
  | nil => simp; exact .nil
  | cons h t ih => cases n with
    | zero => simp; exact .cons h t
    | succ n => simp only [List.drop_succ_cons]; exact ih n
theorem RVs.toArr {ι : Emb} {a a' : List Value} (h : RVs ι a a') : ∀ (i : Nat) (v v' : Value), a.toArray[i]? = some v → a'.toArray[i]? = some v' → RV ι v v' := by
  intro i v v' hv hv'
  obtain ⟨u, hu, hr⟩ := h.get (i := i) (v := v) (by simpa using hv)
  simp at hv'
  rw [hv'] at hu
  cases hu
  exact hr
theorem RVs.of_arr {ι : Emb} {x x' : Array Value} (h1 : x.size = x'.size) (h2 : ∀ (i : Nat) (v v' : Value), x[i]? = some v → x'[i]? = some v' → RV ι v v') : RVs ι x.toList x'.toList :=
  RVs.of_get (by simpa using h1) fun i a b ha hb => h2 i a b (by simpa using ha) (by simpa using hb)
theorem RVs.agg {ι : Emb} {a a' : List Value} (h : RVs ι a a') : RV ι (.agg a.toArray) (.agg a'.toArray) := .agg (by simpa using h.length) h.toArr
theorem RVs.tup {ι : Emb} {a a' : List Value} (h : RVs ι a a') : RV ι (.tuple a.toArray) (.tuple a'.toArray) := .tup (by simpa using h.length) h.toArr
def gr : Nat → Value → Bool
  | 0, _ => false
  | n + 1, v =>
    match v with
    | .bool _ | .int _ _ | .float _ _ | .string _ => true
    | .pointer none | .map none | .nilFunc | .nilIface => true
    | .slice none 0 0 => true
    | .func (.func _) x c => x.toList.all (gr n) && c.toList.all (gr n)
    | .iface _ v => gr n v
    | .agg cs => cs.toList.all (gr n)
    | .tuple vs => vs.toList.all (gr n)
    | _ => false
theorem gr_arr {ι : Emb} {n : Nat} (ih : ∀ {v v' : Value}, gr n v = true → RV ι v v' → v' = v) {x x' : Array Value} (hg : x.toList.all (gr n) = true) (h1 : x.size = x'.size)
    (h2 : ∀ (i : Nat) (v v' : Value), x[i]? = some v → x'[i]? = some v' → RV ι v v') : x' = x := by
  apply Array.ext h1.symm
  intro i hi hi'
  have hm : gr n x[i] = true := List.all_eq_true.1 hg _ (by simp)
  exact ih hm (h2 i _ _ (Array.getElem?_eq_getElem hi') (Array.getElem?_eq_getElem hi))
theorem gr_eq {ι : Emb} : ∀ {n : Nat} {v v' : Value}, gr n v = true → RV ι v v' → v' = v
  | 0, _, _, h, _ => by simp [gr] at h
  | n + 1, v, v', hg, h => by
    have ih : ∀ {v v' : Value}, gr n v = true → RV ι v v' → v' = v := fun a b => gr_eq a b
    cases h with
    | unk c => simp [gr] at hg
    | bool b => rfl
    | int k m => rfl
    | flo k m => rfl
    | str s => rfl
    | nilp => rfl
    | ptr h => simp [gr] at hg
    | nils => rfl
    | sle h => simp [gr] at hg
    | sli h => simp [gr] at hg
    | sl0 => simp [gr] at hg
    | nilm => rfl
    | map h => simp [gr] at hg
    | func h1 h2 h3 h4 =>
      simp only [gr, Bool.and_eq_true] at hg
      rw [gr_arr ih hg.1 h1 h2, gr_arr ih hg.2 h3 h4]
    | nilfn => rfl
    | nili => rfl
    | iface h => simp only [gr] at hg; rw [ih hg h]
    | agg h1 h2 => simp only [gr] at hg; rw [gr_arr ih hg h1 h2]
    | tup h1 h2 => simp only [gr] at hg; rw [gr_arr ih hg h1 h2]
theorem Wc {ι : Emb} : ∀ {n : Nat} {v : Value}, gr n v = true → RV ι v v
  | 0, _, h => by simp [gr] at h
  | n + 1, v, hg => by
    have ih : ∀ {v : Value}, gr n v = true → RV ι v v := fun a => Wc a
    have arr : ∀ {x : Array Value}, x.toList.all (gr n) = true → ∀ (i : Nat) (v v' : Value), x[i]? = some v → x[i]? = some v' → RV ι v v' := by
      intro x hx i v v' h1 h2
      rw [h1] at h2
      cases h2
      exact ih (List.all_eq_true.1 hx _ (by simpa using Array.mem_of_getElem? h1))
    cases v with
    | bool b => exact .bool b
    | int k m => exact .int k m
    | float k m => exact .flo k m
    | complex => simp [gr] at hg
    | string s => exact .str s
    | pointer a => cases a with
      | none => exact .nilp
      | some a => simp [gr] at hg
    | slice a l c =>
      cases a with
      | none =>
        cases l with
        | zero => cases c with
          | zero => exact .nils
          | succ c => simp [gr] at hg
        | succ l => simp [gr] at hg
      | some a => simp [gr] at hg
    | map r => cases r with
      | none => exact .nilm
      | some r => simp [gr] at hg
    | chan => simp [gr] at hg
    | func fn x c =>
      cases fn with
      | func f =>
        simp only [gr, Bool.and_eq_true] at hg
        exact .func rfl (arr hg.1) rfl (arr hg.2)
      | _ => simp [gr] at hg
    | nilFunc => exact .nilfn
    | iface t v => simp only [gr] at hg; exact .iface (ih hg)
    | nilIface => exact .nili
    | agg cs => simp only [gr] at hg; exact .agg rfl (arr hg)
    | tuple cs => simp only [gr] at hg; exact .tup rfl (arr hg)
inductive Blk where
  | dead
  | cells (xs : List Value) (elem : TypeId) (rw : Bool)
  | map (es : List (Value × Value))
  | siter (s : ByteArray) (pos : Nat)
structure AHeap where
  n : Nat
  clk : Nat
  f : Nat → Blk
  ver : Nat → Nat
  log : List (List Nat)
def AHeap.push (H : AHeap) (k : Blk) : AHeap := ⟨H.n + 1, H.clk, fun b => if b = H.n then k else H.f b, fun b => if b = H.n then 0 else H.ver b, H.log⟩
def AHeap.set (H : AHeap) (b : Nat) (k : Blk) : AHeap := ⟨H.n, H.clk + 1, fun c => if c = b then k else H.f c, fun c => if c = b then H.clk else H.ver c, [b] :: H.log⟩
@[simp] theorem AHeap.push_n (H : AHeap) (k : Blk) : (H.push k).n = H.n + 1 := rfl
@[simp] theorem AHeap.set_n (H : AHeap) (b : Nat) (k : Blk) : (H.set b k).n = H.n := rfl
@[simp] theorem AHeap.push_clk (H : AHeap) (k : Blk) : (H.push k).clk = H.clk := rfl
@[simp] theorem AHeap.set_clk (H : AHeap) (b : Nat) (k : Blk) : (H.set b k).clk = H.clk + 1 := rfl
@[simp] theorem AHeap.push_new (H : AHeap) (k : Blk) : (H.push k).f H.n = k := by simp [AHeap.push]
theorem AHeap.push_old (H : AHeap) (k : Blk) {b : Nat} (h : b ≠ H.n) : (H.push k).f b = H.f b := by simp [AHeap.push, h]
@[simp] theorem AHeap.set_same (H : AHeap) (b : Nat) (k : Blk) : (H.set b k).f b = k := by simp [AHeap.set]
theorem AHeap.set_other (H : AHeap) {b c : Nat} (k : Blk) (h : c ≠ b) : (H.set b k).f c = H.f c := by simp [AHeap.set, h]
theorem AHeap.push_ver (H : AHeap) (k : Blk) {b : Nat} (h : b ≠ H.n) : (H.push k).ver b = H.ver b := by simp [AHeap.push, h]
@[simp] theorem AHeap.push_ver_new (H : AHeap) (k : Blk) : (H.push k).ver H.n = 0 := by simp [AHeap.push]
theorem AHeap.set_ver (H : AHeap) {b c : Nat} (k : Blk) (h : c ≠ b) : (H.set b k).ver c = H.ver c := by simp [AHeap.set, h]
@[simp] theorem AHeap.set_ver_same (H : AHeap) (b : Nat) (k : Blk) : (H.set b k).ver b = H.clk := by simp [AHeap.set]
def XW : Blk → Bool
  | .cells _ _ rw => rw
  | .map _ => true
  | .siter _ _ => true
  | .dead => false
def Xf : Blk → Bool
  | .dead => false
  | _ => true
structure VO (H H' : AHeap) : Prop where
  n : H.n ≤ H'.n
  clk : H.clk ≤ H'.clk
  old : ∀ b, b < H.n → (H'.ver b = H.ver b ∧ H'.f b = H.f b) ∨ H.clk ≤ H'.ver b
  live : ∀ b, b < H.n → Xf (H'.f b) = true → Xf (H.f b) = true
  log : ∃ l, l.length = H'.clk - H.clk ∧ H'.log = l ++ H.log ∧ ∀ b, b < H.n → (∀ x ∈ l, b ∉ x) → H'.ver b = H.ver b
theorem VO.refl (H : AHeap) : VO H H := ⟨Nat.le_refl _, Nat.le_refl _, fun _ _ => .inl ⟨rfl, rfl⟩, fun _ _ h => h, [], by simp, rfl, fun _ _ _ => rfl⟩
theorem VO.trans {H H1 H2 : AHeap} (a : VO H H1) (b : VO H1 H2) : VO H H2 :=
  ⟨Nat.le_trans a.n b.n, Nat.le_trans a.clk b.clk, fun c hc => by
    rcases a.old c hc with ⟨h1, h2⟩ | h1
    · rcases b.old c (Nat.lt_of_lt_of_le hc a.n) with ⟨h3, h4⟩ | h3
      · exact .inl ⟨h3.trans h1, h4.trans h2⟩
      · exact .inr (Nat.le_trans a.clk h3)
    · rcases b.old c (Nat.lt_of_lt_of_le hc a.n) with ⟨h3, h4⟩ | h3
      · exact .inr (by omega)
      · exact .inr (Nat.le_trans a.clk h3), fun c hc h => a.live c hc (b.live c (Nat.lt_of_lt_of_le hc a.n) h), by
    obtain ⟨l, h1, h2, h3⟩ := a.log
    obtain ⟨m, h4, h5, h6⟩ := b.log
    have ha := a.clk
    have hb := b.clk
    refine ⟨m ++ l, by rw [List.length_append]; omega, by rw [h5, h2, List.append_assoc], fun c hc h => ?_⟩
    rw [h6 c (Nat.lt_of_lt_of_le hc a.n) fun x hx => h x (List.mem_append_left _ hx)]
    exact h3 c hc fun x hx => h x (List.mem_append_right _ hx)⟩
theorem VO.push (H : AHeap) (k : Blk) : VO H (H.push k) :=
  ⟨by simp, Nat.le_refl _, fun b hb => .inl ⟨H.push_ver k (by omega), H.push_old k (by omega)⟩, fun b hb h => by rwa [H.push_old k (by omega)] at h,
    [], by simp, rfl, fun b hb _ => H.push_ver k (by omega)⟩
theorem VO.set (H : AHeap) (b : Nat) (k : Blk) (hk : Xf k = true → Xf (H.f b) = true) : VO H (H.set b k) :=
  ⟨Nat.le_refl _, by simp, fun c hc => by
    by_cases h : c = b
    · subst h; exact .inr (by simp)
    · exact .inl ⟨H.set_ver k h, H.set_other k h⟩, fun c hc ha => by
    by_cases h : c = b
    · subst h; exact hk (by simpa using ha)
    · rwa [H.set_other k h] at ha, [[b]], by simp, rfl, fun c hc h => H.set_ver k fun e => h [b] (by simp) (by simp [e])⟩
theorem W7 {k : Blk} (h : XW k = true) : Xf k = true := by cases k <;> simp_all [XW, Xf]
structure MapRel (ι : Emb) (es : List (Value × Value)) (ents : Array MapEntry) (clock : Nat) : Prop where
  fwd : ∀ p ∈ es, ∃ e ∈ ents.toList, e.key = p.1 ∧ RV ι p.2 e.val
  bwd : ∀ e ∈ ents.toList, ∃ p ∈ es, p.1 = e.key
  len : ents.size = es.length
  keys : (es.map (·.1)).Nodup
  ckeys : (ents.toList.map (·.key)).Nodup
  born : (ents.toList.map (·.born)).Nodup
  clk : ∀ e ∈ ents.toList, e.born < clock
theorem MapRel.mono {ι ι' : Emb} (hι : ∀ b L, ι b = some L → ι' b = some L) {es : List (Value × Value)} {ents : Array MapEntry} {clock : Nat} (h : MapRel ι es ents clock) : MapRel ι' es ents clock :=
  { h with fwd := fun p hp => let ⟨e, he, hk, hr⟩ := h.fwd p hp; ⟨e, he, hk, hr.mono hι⟩ }
def tailQ (P : Program) (e : TypeId) : Nat := match P.underlying e with | some (.int .u8) => 0 | _ => 1
def RB (P : Program) (B : Nat) (ι : Emb) (w : World) (L : Loc) : Blk → Prop
  | .dead => True
  | .cells xs e rw => ∃ cs e' fr, w.heap[L.cb]? = some (.cells cs e' fr) ∧ cs.size = L.total ∧ L.base + xs.length ≤ cs.size ∧
      (∀ i v, xs[i]? = some v → ∃ v', cs[L.base + i]? = some v' ∧ RV ι v v') ∧
      (rw = true → B ≤ L.cb ∧ e' = e ∧ L.sz = P.cellsOf e ∧ ∀ j, j < cs.size + tailQ P e → ¬ (fr.1 ≤ j ∧ j < fr.2))
  | .map es => B ≤ L.cb ∧ ∃ ents clock, w.heap[L.cb]? = some (.map ents clock) ∧ MapRel ι es ents clock
  | .siter s pos => B ≤ L.cb ∧ w.heap[L.cb]? = some (.stringIter s pos)
theorem RB.mono {P : Program} {B : Nat} {ι ι' : Emb} {w : World} {L : Loc} (hι : ∀ b L, ι b = some L → ι' b = some L) {k : Blk} (h : RB P B ι w L k) : RB P B ι' w L k := by
  cases k with
  | dead => trivial
  | cells xs e rw =>
    obtain ⟨cs, e', fr, h1, h2, h3, h4, h5⟩ := h
    exact ⟨cs, e', fr, h1, h2, h3, fun i v hv => let ⟨v', a, b⟩ := h4 i v hv; ⟨v', a, b.mono hι⟩, h5⟩
  | map es =>
    obtain ⟨h0, ents, clock, h1, h2⟩ := h
    exact ⟨h0, ents, clock, h1, h2.mono hι⟩
  | siter s pos => exact h
theorem RB.keep {P : Program} {B : Nat} {ι : Emb} {w w' : World} {L : Loc} {k : Blk} (h : RB P B ι w L k) (he : w'.heap[L.cb]? = w.heap[L.cb]?) : RB P B ι w' L k := by
  cases k with
  | dead => trivial
  | cells xs e rw => simpa only [RB, he] using h
  | map es => simpa only [RB, he] using h
  | siter s pos => simpa only [RB, he] using h
inductive GK where
  | int
  | iface
  | tab (k : IntKind) (zs : List Int)
def cellO : Option Obj → Nat → Option Value
  | some (.cells c _ _), i => c[i]?
  | _, _ => none
def GK.ok : GK → Option Obj → Prop
  | .int, o => ∃ m, cellO o 0 = some (.int .i64 m)
  | .iface, o => ∃ v, cellO o 0 = some v ∧ (v = .nilIface ∨ ∃ t p, v = .iface t p)
  | .tab k zs, o => ∃ e fr, o = some (.cells (zs.map fun z => Value.int k z).toArray e fr)
def globs : List (Nat × GK) := [(0, .int)]
def Glob (B : Nat) (w : World) : Prop := ∀ g, g ∈ globs → g.1 < B ∧ g.2.ok w.heap[g.1]?
theorem Glob.keep {B B' : Nat} {w w' : World} (h : Glob B w) (hB : B ≤ B') (hk : ∀ c, c < B → w'.heap[c]? = w.heap[c]?) : Glob B' w' := fun g hg => by
  obtain ⟨h1, h2⟩ := h g hg
  exact ⟨Nat.lt_of_lt_of_le h1 hB, by rw [hk _ h1]; exact h2⟩
theorem cell_cellO (w : World) (g i : Nat) : w.cell? ⟨g, i, none⟩ = cellO w.heap[g]? i := by
  unfold World.cell? cellO
  cases w.heap[g]? with
  | none => rfl
  | some o => cases o <;> rfl
theorem Glob.int {B : Nat} {w : World} (h : Glob B w) {g : Nat} (hg : (g, GK.int) ∈ globs) : ∃ m, w.cell? ⟨g, 0, none⟩ = some (.int .i64 m) := by
  obtain ⟨_, m, hm⟩ := h _ hg
  exact ⟨m, by rw [cell_cellO]; exact hm⟩
theorem Glob.iface {B : Nat} {w : World} (h : Glob B w) {g : Nat} (hg : (g, GK.iface) ∈ globs) : ∃ v, w.cell? ⟨g, 0, none⟩ = some v ∧ (v = .nilIface ∨ ∃ t p, v = .iface t p) := by
  obtain ⟨_, v, hv, hq⟩ := h _ hg
  exact ⟨v, by rw [cell_cellO]; exact hv, hq⟩
theorem Glob.tab {B : Nat} {w : World} (h : Glob B w) {g : Nat} {k : IntKind} {zs : List Int} (hg : (g, GK.tab k zs) ∈ globs) : ∃ e fr, w.heap[g]? = some (.cells (zs.map fun z => Value.int k z).toArray e fr) := (h _ hg).2
structure Rel (P : Program) (B : Nat) (ι : Emb) (H : AHeap) (w : World) : Prop where
  blk : ∀ b L, ι b = some L → RB P B ι w L (H.f b)
  lt : ∀ b L, ι b = some L → b < H.n ∧ L.cb < w.heap.size
  inj : ∀ b c L M, ι b = some L → ι c = some M → b ≠ c → XW (H.f b) = true → Xf (H.f c) = true → L.cb ≠ M.cb
  base : B ≤ w.heap.size
  ver : ∀ b, H.ver b < H.clk
  glob : Glob B w
structure Stp (ι : Emb) (H : AHeap) (w : World) (ι' : Emb) (H' : AHeap) (w' : World) : Prop where
  ext : ∀ b, b < H.n → ι' b = ι b
  hn : H.n ≤ H'.n
  wn : w.heap.size ≤ w'.heap.size
  os : w'.os = w.os
  tape : w'.tape = w.tape
  output : w'.output = w.output
  fr : ∀ c, c < w.heap.size → (∀ b L, ι b = some L → XW (H.f b) = true → L.cb ≠ c) → w'.heap[c]? = w.heap[c]?
  new : ∀ b L, H.n ≤ b → ι' b = some L → w.heap.size ≤ L.cb ∨ ∃ b0 L0, b0 < H.n ∧ ι b0 = some L0 ∧ XW (H.f b0) = true ∧ L0.cb = L.cb
  own : ∀ b L, b < H.n → ι b = some L → XW (H'.f b) = true → XW (H.f b) = true
  vo : VO H H'
theorem Stp.refl (ι : Emb) (H : AHeap) (w : World) (hι : ∀ b L, ι b = some L → b < H.n) : Stp ι H w ι H w :=
  ⟨fun _ _ => rfl, Nat.le_refl _, Nat.le_refl _, rfl, rfl, rfl, fun _ _ _ => rfl, fun b L hb h => absurd (hι b L h) (by omega), fun _ _ _ _ h => h, VO.refl _⟩
theorem Stp.trans {ι ι1 ι2 : Emb} {H H1 H2 : AHeap} {w w1 w2 : World} (a : Stp ι H w ι1 H1 w1) (b : Stp ι1 H1 w1 ι2 H2 w2) : Stp ι H w ι2 H2 w2 where
  ext := fun c hc => (b.ext c (Nat.lt_of_lt_of_le hc a.hn)).trans (a.ext c hc)
  hn := Nat.le_trans a.hn b.hn
  wn := Nat.le_trans a.wn b.wn
  os := b.os.trans a.os
  tape := b.tape.trans a.tape
  output := b.output.trans a.output
  fr := fun c hc h => by
    rw [b.fr c (Nat.lt_of_lt_of_le hc a.wn) ?_, a.fr c hc h]
    intro d L hd ho
    by_cases hdn : d < H.n
    · exact h d L (by rw [← a.ext d hdn]; exact hd) (a.own d L hdn (by rw [← a.ext d hdn]; exact hd) ho)
    · rcases a.new d L (by omega) hd with h1 | ⟨b0, L0, hb0, hi, ho0, he⟩
      · omega
      · rw [← he]; exact h b0 L0 hi ho0
  new := fun c L hc h => by
    by_cases hcn : c < H1.n
    · exact a.new c L hc (by rw [← b.ext c hcn]; exact h)
    · rcases b.new c L (by omega) h with h1 | ⟨b0, L0, hb0, hi, ho0, he⟩
      · exact .inl (Nat.le_trans a.wn h1)
      · by_cases hb : b0 < H.n
        · exact .inr ⟨b0, L0, hb, by rw [← a.ext b0 hb]; exact hi, a.own b0 L0 hb (by rw [← a.ext b0 hb]; exact hi) ho0, he⟩
        · rcases a.new b0 L0 (by omega) hi with h2 | ⟨c0, M0, hc0, hi', ho', he'⟩
          · exact .inl (by omega)
          · exact .inr ⟨c0, M0, hc0, hi', ho', he'.trans he⟩
  own := fun c L hc hl h => a.own c L hc hl (b.own c L (Nat.lt_of_lt_of_le hc a.hn) (by rw [a.ext c hc]; exact hl) h)
  vo := a.vo.trans b.vo
theorem Stp.up {ι ι' : Emb} {H H' : AHeap} {w w' : World} (s : Stp ι H w ι' H' w') (hι : ∀ b L, ι b = some L → b < H.n) : ∀ b L, ι b = some L → ι' b = some L :=
  fun b L h => by rw [s.ext b (hι b L h)]; exact h
theorem Rel.dom {P : Program} {B : Nat} {ι : Emb} {H : AHeap} {w : World} (r : Rel P B ι H w) : ∀ b L, ι b = some L → b < H.n := fun b L h => (r.lt b L h).1
theorem Stp.below {P : Program} {B : Nat} {ι ι' : Emb} {H H' : AHeap} {w w' : World} (r : Rel P B ι H w) (s : Stp ι H w ι' H' w') : RowKit.Below B w w' where
  os := s.os
  tape := s.tape
  output := s.output
  size := s.wn
  block := fun k hk => s.fr k (Nat.lt_of_lt_of_le hk r.base) fun b L hb ho => by
    have h := r.blk b L hb
    cases hq : H.f b with
    | dead => simp [hq, XW] at ho
    | cells xs e rw =>
      rw [hq] at h ho
      obtain ⟨cs, e', fr, _, _, _, _, h5⟩ := h
      have := (h5 (by simpa [XW] using ho)).1
      omega
    | map es => rw [hq] at h; have := h.1; omega
    | siter t pos => rw [hq] at h; have := h.1; omega
end Go.Proofs.YtmiinbhnfojnbaaDoor.Eng

namespace Go.Proofs.YtmiinbhnfojnbaaDoor.Eng
open Go
def pv {α : Type} (P : Program) : Sem α → Option α
  | .pure a => some a
  | .program k => pv P (k P)
  | _ => none
abbrev top : Value := .chan none
def pvg (P : Program) (s : Sem Value) : Option Value :=
  match pv P s with
  | some v => if gr 9 v then some v else none
  | none => none
def one : Value → Bool
  | .agg _ | .tuple _ | .chan _ => false
  | _ => true
def spl : List Value → Nat → List Value → List Value
  | xs, _, [] => xs
  | xs, o, v :: r => spl (xs.set o v) (o + 1) r
def row? (P : Program) (t : TypeId) : Option Bool :=
  match P.underlying t with
  | some (.struct _) | some (.array _ _) => some true
  | some _ => some false
  | none => none
def V2 (P : Program) (t : TypeId) : Option Nat := (P.info? t).map (·.size)
def ld1 (H : AHeap) : Value → Option Value
  | .pointer (some ⟨b, o, none⟩) => match H.f b with | .cells xs _ _ => xs[o]? | _ => none
  | _ => none
def cut (H : AHeap) (b o n : Nat) : Option (List Value) :=
  match H.f b with
  | .cells xs _ _ => if o + n ≤ xs.length then some ((xs.drop o).take n) else none
  | _ => none
def ldN (n : Nat) (H : AHeap) : Value → Option Value
  | .pointer (some ⟨b, o, none⟩) => (cut H b o n).map fun l => .agg l.toArray
  | _ => none
def UH (P : Program) (t : TypeId) (a : Value) (H : AHeap) : Option Value :=
  match row? P t with
  | some true => ldN (P.cellsOf t) H a
  | some false => ld1 H a
  | none => none
def st1 (H : AHeap) (a v : Value) : Option AHeap :=
  match a with
  | .pointer (some ⟨b, o, none⟩) => match H.f b with
    | .cells xs e true => if o < xs.length then (if one v then some (H.set b (.cells (xs.set o v) e true)) else none) else none
    | _ => none
  | _ => none
def stL (H : AHeap) (b o : Nat) (vs : List Value) : Option AHeap :=
  match H.f b with
  | .cells xs e true => if o + vs.length ≤ xs.length then (if vs.all one then some (H.set b (.cells (spl xs o vs) e true)) else none) else none
  | _ => none
def stN (n : Nat) (H : AHeap) (a v : Value) : Option AHeap :=
  match a, v with
  | .pointer (some ⟨b, o, none⟩), .agg cs => if cs.size = n then stL H b o cs.toList else none
  | _, _ => none
def xstore (P : Program) (t : TypeId) (a v : Value) (H : AHeap) : Option AHeap :=
  match row? P t with
  | some true => stN (P.cellsOf t) H a v
  | some false => if P.cellsOf t = 1 then st1 H a v else none
  | none => none
def flat : Value → Option (List Value)
  | .agg cs => some cs.toList
  | .tuple _ | .chan _ => none
  | v => some [v]
def XT (t : TypeId) (v : Value) (H : AHeap) : Option (Value × AHeap) :=
  (flat v).map fun l => (.pointer (some ⟨H.n, 0, none⟩), H.push (.cells l t true))
def zero? (P : Program) (t : TypeId) : Option Value :=
  match P.info? t with
  | some i => match i.zero with | some z => if gr 9 z then some z else none | none => none
  | none => none
def xalloc (P : Program) (t : TypeId) (H : AHeap) : Option (Value × AHeap) := (zero? P t).bind fun z => XT t z H
def places (P : Program) : List Field → Option (List (Nat × Nat))
  | [] => some []
  | f :: fs => match P.info? f.type with
    | some i => (places P fs).map fun l => (f.offset, i.size) :: l
    | none => none
def fillX (place : Nat → Option (Nat × Nat)) (cells : Array Value) : List (Nat × Value) → Option (Array Value)
  | [] => some cells
  | (i, v) :: rest =>
    match place i, flat v with
    | some (off, size), some l =>
      if l.length ≠ size || off + l.length > cells.size then none
      else fillX place (l.zipIdx.foldl (fun cs (c, j) => cs.setIfInBounds (off + j) c) cells) rest
    | _, _ => none
def Ui (z : Array Value) (pl : List (Nat × Nat)) (parts : List (Nat × Value)) : Option Value := (fillX (pl[·]?) z parts).map .agg
def bldA (z : Array Value) (sz : Nat) (parts : List (Nat × Value)) : Option Value := (fillX (fun k => some (k * sz, sz)) z parts).map .agg
def xbuild (P : Program) (t : TypeId) (parts : List (Nat × Value)) : Option Value :=
  match zero? P t, P.underlying t with
  | some (.agg z), some (.struct fs) => (places P fs.toList).bind fun pl => Ui z pl parts
  | some (.agg z), some (.array _ e) => (V2 P e).bind fun sz => bldA z sz parts
  | _, _ => none
def zeros (z : List Value) : Nat → List Value
  | 0 => []
  | n + 1 => z ++ zeros z n
def zrow (P : Program) (e : TypeId) : Option (List Value) :=
  match P.info? e with
  | some i => match i.zero with
    | some z => if gr 9 z && z.cells.size == i.size && 0 < i.size then some z.cells.toList else none
    | none => none
  | none => none
def UC (e : TypeId) (z : List Value) (len : Nat) (parts : List (Nat × Value)) (H : AHeap) : Option (Value × AHeap) :=
  (fillX (fun k => some (k * z.length, z.length)) (zeros z len).toArray parts).map fun cs => (.slice (some ⟨H.n, 0, none⟩) len (2 * len), H.push (.cells cs.toList e true))
def WT (P : Program) (t : TypeId) (len : Nat) (parts : List (Nat × Value)) (H : AHeap) : Option (Value × AHeap) :=
  match P.underlying t with
  | some (.slice e) => (zrow P e).bind fun z => if len * z.length ≤ 2 ^ 24 then UC e z len parts H else none
  | _ => none
def mkS (e : TypeId) (z : List Value) (bytes : Nat) (l c : Value) (H : AHeap) : Option (Value × AHeap) :=
  match l, c with
  | .int _ l, .int _ c =>
    if 0 ≤ l ∧ l ≤ c ∧ c * bytes ≤ 140737488355328 ∧ c ≤ 140737488355328 then
      some (.slice (some ⟨H.n, 0, none⟩) l.toNat (2 * c.toNat), H.push (.cells (zeros z c.toNat) e true))
    else none
  | _, _ => none
def Vp (P : Program) (t : TypeId) (l c : Value) (H : AHeap) : Option (Value × AHeap) :=
  match P.underlying t with
  | some (.slice e) => (zrow P e).bind fun z => mkS e z (P.bytesOf e) l c H
  | _ => none
def Gg (P : Program) (t : TypeId) : Value → Value → Option Bool
  | .pointer none, .pointer (some _) | .pointer (some _), .pointer none => match P.underlying t with | some (.pointer _) => some false | _ => none
  | .slice none 0 0, .slice (some _) _ _ | .slice (some _) _ _, .slice none 0 0 => match P.underlying t with | some (.slice _) => some false | _ => none
  | .map none, .map (some _) | .map (some _), .map none => match P.underlying t with | some (.map _ _) => some false | _ => none
  | .nilFunc, .func _ _ _ | .func _ _ _, .nilFunc => match P.underlying t with | some (.func _ _ _) => some false | _ => none
  | .nilIface, .iface _ _ | .iface _ _, .nilIface => match P.underlying t with | some (.interface _) => some false | _ => none
  | _, _ => none
def bl (s : ByteArray) : List UInt8 := s.data.toList
def mk (l : List UInt8) : ByteArray := ⟨l.toArray⟩
def strOp (op : BinOp) (a b : ByteArray) : Option Value :=
  match op with
  | .add => if (bl a).length + (bl b).length ≤ 4611686018427387904 then some (.string (mk (bl a ++ bl b))) else none
  | .eql => some (.bool (bl a == bl b))
  | .neq => some (.bool !(bl a == bl b))
  | .lss => some (.bool (Op.bytesLess (bl a) (bl b)))
  | .leq => some (.bool (Op.bytesLess (bl a) (bl b) || bl a == bl b))
  | .gtr => some (.bool !(Op.bytesLess (bl a) (bl b) || bl a == bl b))
  | .geq => some (.bool !(Op.bytesLess (bl a) (bl b)))
  | _ => none
def Yf (P : Program) (op : BinOp) (t : TypeId) (ox oy : Operand) (x y : Value) : Option Value :=
  match x, y with
  | .string a, .string b => strOp op a b
  | x, y =>
    if gr 9 x && gr 9 y then pvg P (do eqGuard op t ox oy x y; binOp op t x y)
    else match op with
      | .eql => (Gg P t x y).map .bool
      | .neq => (Gg P t x y).map fun b => .bool !b
      | _ => none
def xun (P : Program) (op : UnOp) (x : Value) : Option Value := if gr 9 x then pvg P (Op.unary op x) else none
def Xc (b : UInt8) : Value := .int .u8 b.toNat
def bytesOf : List Value → Option (List UInt8)
  | [] => some []
  | .int .u8 n :: r => (bytesOf r).map fun l => UInt8.ofNat n.toNat :: l
  | _ :: _ => none
def YP (P : Program) (src dst : TypeId) (x : Value) (H : AHeap) : Option (Value × AHeap) :=
  match P.underlying src, P.underlying dst, x with
  | some _, some (.slice e), .string s =>
    match P.underlying e with
    | some (.int .u8) => if P.cellsOf e = 1 then some (.slice (some ⟨H.n, 0, none⟩) (bl s).length (2 * (bl s).length + 1), H.push (.cells ((bl s).map Xc) e true)) else none
    | _ => none
  | some (.slice e), some .string, .slice (some ⟨b, o, none⟩) n _ =>
    match P.underlying e with
    | some (.int .u8) => if n = 0 then some (.string .empty, H) else (cut H b o n).bind fun l => (bytesOf l).map fun s => (.string (mk s), H)
    | _ => none
  | _, _, x => if gr 9 x then (pvg P (convert src dst x)).map fun v => (v, H) else none
def bnd (y : Nat) : Value → Option Nat
  | .int _ i => if 0 ≤ i ∧ i ≤ y then some i.toNat else none
  | _ => none
def WN (h : Nat) : Option Value → Option Nat
  | none => some 0
  | some v => bnd h v
def Wl (y len : Nat) : Option Value → Option Nat
  | none => some len
  | some v => bnd y v
def Qy (e : TypeId) : Blk → Bool
  | .cells _ e' true => e' == e
  | _ => false
def slS (e : TypeId) (sz : Nat) (x : Value) (lo hi mx : Option Value) (H : AHeap) : Option Value :=
  match x with
  | .slice (some ⟨b, o, none⟩) len code =>
    let c := code / 2
    match mx, hi with
    | some m, some h => (bnd c m).bind fun m => (bnd m h).bind fun h => (WN h lo).map fun l =>
        .slice (some ⟨b, if m = l then o else o + l * sz, none⟩) (h - l) (2 * (m - l))
    | none, hi => (Wl c len hi).bind fun h => (WN h lo).bind fun l =>
        if h ≤ c then
          (if code % 2 = 0 then some (.slice (some ⟨b, if c = l then o else o + l * sz, none⟩) (h - l) (2 * (c - l)))
          else if Qy e (H.f b) then some (.slice (some ⟨b, o + l * sz, none⟩) (h - l) (2 * (c - l) + 1)) else none)
        else none
    | _, _ => none
  | .slice none 0 0 =>
    match mx, hi with
    | some m, some h => (bnd 0 m).bind fun m => (bnd m h).bind fun h => (WN h lo).map fun _ => .slice none 0 0
    | none, hi => (Wl 0 0 hi).bind fun h => (WN h lo).map fun _ => .slice none 0 0
    | _, _ => none
  | _ => none
def slA (n sz : Nat) (x : Value) (lo hi : Option Value) : Option Value :=
  match x with
  | .pointer (some ⟨b, o, none⟩) => (Wl n n hi).bind fun h => (WN h lo).map fun l =>
        .slice (some ⟨b, if n = l then o else o + l * sz, none⟩) (h - l) (2 * (n - l))
  | _ => none
def slT (x : Value) (lo hi : Option Value) : Option Value :=
  match x with
  | .string s => (Wl (bl s).length (bl s).length hi).bind fun h => (WN h lo).map fun l => .string (mk (((bl s).take h).drop l))
  | _ => none
def X3 (P : Program) (t : TypeId) (x : Value) (lo hi mx : Option Value) (H : AHeap) : Option Value :=
  match P.underlying t with
  | some (.slice e) => (V2 P e).bind fun sz => slS e sz x lo hi mx H
  | some (.array n e) => (V2 P e).bind fun sz => match mx with | some _ => none | none => slA n sz x lo hi
  | some .string => match mx with | some _ => none | none => slT x lo hi
  | _ => none
def ixS (sz : Nat) (x i : Value) : Option Value :=
  match x, i with
  | .slice (some ⟨b, o, none⟩) len _, .int _ i => if 0 ≤ i ∧ i < len then some (.pointer (some ⟨b, o + i.toNat * sz, none⟩)) else none
  | _, _ => none
def ixA (n sz : Nat) (x i : Value) : Option Value :=
  match x, i with
  | .pointer (some ⟨b, o, none⟩), .int _ i => if 0 ≤ i ∧ i < n then some (.pointer (some ⟨b, o + i.toNat * sz, none⟩)) else none
  | _, _ => none
def U0 (P : Program) (t : TypeId) (x i : Value) : Option Value :=
  match P.underlying t with
  | some (.slice e) => (V2 P e).bind fun sz => ixS sz x i
  | some (.array n e) => (V2 P e).bind fun sz => ixA n sz x i
  | _ => none
def prt1 (off : Nat) (x : Value) : Option Value := match x with | .agg cs => cs[off]? | _ => none
def prtN (n off : Nat) (x : Value) : Option Value := match x with | .agg cs => some (.agg (cs.extract off (off + n))) | _ => none
def xpart (P : Program) (t : TypeId) (x : Value) (off : Nat) : Option Value :=
  match row? P t with
  | some true => prtN (P.cellsOf t) off x
  | some false => prt1 off x
  | none => none
def Uj (P : Program) (t : TypeId) (x i : Value) : Option Value :=
  match P.underlying t, i with
  | some (.array len e), .int _ i => (V2 P e).bind fun sz => if 0 ≤ i ∧ i < len then xpart P e x (i.toNat * sz) else none
  | some .string, .int _ i => match x with | .string s => if 0 ≤ i then ((bl s)[i.toNat]?).map Xc else none | _ => none
  | _, _ => none
def xfield (P : Program) (t : TypeId) (x : Value) (f : Nat) : Option Value :=
  match P.underlying t with
  | some (.struct fs) => match fs[f]? with | some f => xpart P f.type x f.offset | none => none
  | _ => none
def fad (off : Nat) (x : Value) : Option Value := match x with | .pointer (some ⟨b, o, none⟩) => some (.pointer (some ⟨b, o + off, none⟩)) | _ => none
def U8 (P : Program) (t : TypeId) (x : Value) (f : Nat) : Option Value :=
  match P.underlying t with
  | some (.struct fs) => match fs[f]? with
    | some f => if P.cellsOf f.type = 0 then none else fad f.offset x
    | none => none
  | _ => none
def Yn (x : Value) (i : Nat) : Option Value :=
  match x with
  | .tuple vs => vs[i]?
  | _ => none
def Vn (sz : Nat) (x : Value) (H : AHeap) : Option (Nat × List Value) :=
  match x with
  | .slice none 0 0 => some (0, [])
  | .slice (some ⟨b, o, none⟩) n _ => if n = 0 then some (0, []) else (cut H b o (n * sz)).map fun l => (n, l)
  | _ => none
def srcT (x : Value) : Option (Nat × List Value) := match x with | .string s => some ((bl s).length, (bl s).map Xc) | _ => none
def srcZ (z : List Value) (bytes : Nat) (x : Value) : Option (Nat × List Value) :=
  match x with
  | .int .i64 n => if 0 ≤ n ∧ n * bytes ≤ 140737488355328 ∧ n ≤ 140737488355328 then some (n.toNat, zeros z n.toNat) else none
  | _ => none
def srcOf (P : Program) (e : TypeId) (z : List Value) (tx : TypeId) (x : Value) (H : AHeap) : Option (Nat × List Value) :=
  match P.underlying tx with
  | some (.slice _) => Vn z.length x H
  | some .string => if z.length = 1 then srcT x else none
  | some (.int _) => srcZ z (P.bytesOf e) x
  | _ => none
def Qx (sz : Nat) (n : Nat) (H : AHeap) (base : Option Addr) : Option (List Value) :=
  if n = 0 then some [] else
  match base with
  | some ⟨b, o, none⟩ => cut H b o (n * sz)
  | _ => none
def kill (H : AHeap) (e : TypeId) (c sz : Nat) : Option Addr → Option AHeap
  | some ⟨b, o, none⟩ => match H.f b with
    | .cells xs e' true => if e' = e ∧ o + c * sz = xs.length then some (H.set b .dead) else none
    | _ => none
  | _ => none
def app (e : TypeId) (sz bytes : Nat) (s : Value) (src : Option (Nat × List Value)) (H : AHeap) : Option (Value × AHeap) :=
  match s with
  | .slice base len code =>
    src.bind fun r =>
      if r.1 = 0 then some (s, H)
      else if (len + r.1) * bytes > 140737488355328 ∨ len + r.1 > 140737488355328 then none
      else if len + r.1 ≤ code / 2 then
        (match base with
        | some ⟨b, o, none⟩ => (stL H b (o + len * sz) r.2).map fun H' => (.slice base (len + r.1) code, H')
        | _ => none)
      else if r.2.all one = false then none
      else (Qx sz len H base).bind fun old =>
        ((if code % 2 = 0 then some H else kill H e (code / 2) sz base) : Option AHeap).map fun H' =>
          (.slice (some ⟨H'.n, 0, none⟩) (len + r.1) (2 * (len + r.1) + 1), H'.push (.cells (old ++ r.2) e true))
  | _ => none
def Za (P : Program) (ts : List TypeId) (s x : Value) (H : AHeap) : Option (Value × AHeap) :=
  match ts with
  | [t, tx] =>
    match P.underlying t with
    | some (.slice e) => (zrow P e).bind fun z => app e z.length (P.bytesOf e) s (srcOf P e z tx x H) H
    | _ => none
  | _ => none
def cpy (sz : Nat) (d s : Value) (H : AHeap) : Option (Value × AHeap) :=
  match d, s with
  | .slice base dl _, .slice sb sl _ =>
    if Nat.min sl dl = 0 then some (goInt 0, H) else
    (match sb, base with
    | some ⟨b', o', none⟩, some ⟨b, o, none⟩ => (cut H b' o' (Nat.min sl dl * sz)).bind fun l => (stL H b o l).map fun H' => (goInt (Nat.min sl dl), H')
    | _, _ => none)
  | _, _ => none
def xcopy (P : Program) (ts : List TypeId) (d s : Value) (H : AHeap) : Option (Value × AHeap) :=
  match ts with
  | [] => none
  | t :: _ =>
    match P.underlying t with
    | some (.slice e) => (V2 P e).bind fun sz => cpy sz d s H
    | _ => none
def keq : Value → Value → Bool
  | .int k a, .int k' b => k == k' && a == b
  | .string a, .string b => a == b
  | .bool a, .bool b => a == b
  | _, _ => false
def Wx : TypeDesc → Value → Bool
  | .int k, .int k' _ => k == k'
  | .string, .string _ => true
  | .bool, .bool _ => true
  | _, _ => false
def keyDesc (P : Program) (t : TypeId) : Option TypeDesc :=
  match P.underlying t with
  | some (.int k) => some (.int k)
  | some .string => some .string
  | some .bool => some .bool
  | _ => none
def mget (es : List (Value × Value)) (k : Value) : Option Value := (es.find? fun p => keq k p.1).map (·.2)
def mput (es : List (Value × Value)) (k v : Value) : List (Value × Value) :=
  if es.any (fun p => keq k p.1) then es.map fun p => if keq k p.1 then (p.1, v) else p else es ++ [(k, v)]
def mdel (es : List (Value × Value)) (k : Value) : List (Value × Value) := es.filter fun p => !keq k p.1
def XX (d : TypeDesc) (H : AHeap) : Value → Option (List (Value × Value))
  | .map none => some []
  | .map (some b) => match H.f b with
    | .map es => if es.all fun p => Wx d p.1 then some es else none
    | _ => none
  | _ => none
def Xb (P : Program) (t : TypeId) (m k : Value) (ok : Bool) (H : AHeap) : Option Value :=
  match P.underlying t with
  | some (.map kt e) => match keyDesc P kt, zero? P e with
    | some d, some z => if Wx d k then (XX d H m).map fun es =>
        (match mget es k with
        | some v => if ok then .tuple #[v, .bool true] else v
        | none => if ok then .tuple #[z, .bool false] else z) else none
    | _, _ => none
  | _ => none
def Y8 (P : Program) (t : TypeId) (m k v : Value) (H : AHeap) : Option AHeap :=
  match P.underlying t, m with
  | some (.map kt _), .map (some b) => match keyDesc P kt with
    | some d => if Wx d k then (XX d H m).map fun es => H.set b (.map (mput es k v)) else none
    | none => none
  | _, _ => none
def QE (P : Program) (ts : List TypeId) (m k : Value) (H : AHeap) : Option (Value × AHeap) :=
  match ts with
  | [] => none
  | t :: _ => match P.underlying t with
    | some (.map kt _) => match keyDesc P kt with
      | some d => if Wx d k then (match m with
        | .map none => some (.tuple #[], H)
        | .map (some b) => (XX d H m).map fun es => (.tuple #[], H.set b (.map (mdel es k)))
        | _ => none) else none
      | none => none
    | _ => none
def xlen (P : Program) (ts : List TypeId) (x : Value) : Option Value :=
  match ts with
  | [] => none
  | t :: _ => match P.underlying t, x with
    | some .string, .string s => some (goInt (bl s).length)
    | some (.slice _), .slice _ n _ => some (goInt n)
    | some (.array n _), _ => some (goInt n)
    | _, _ => none
def xlenM (P : Program) (ts : List TypeId) (x : Value) (H : AHeap) : Option Value :=
  match ts with
  | [] => none
  | t :: _ => match P.underlying t with
    | some (.map _ _) => (match x with
      | .map none => some (goInt 0)
      | .map (some b) => (match H.f b with | .map es => some (goInt es.length) | _ => none)
      | _ => none)
    | _ => xlen P ts x
def xcap (P : Program) (ts : List TypeId) (x : Value) : Option Value :=
  match ts with
  | [] => none
  | t :: _ => match P.underlying t, x with
    | some (.slice _), .slice none 0 0 => some (goInt 0)
    | some (.slice _), .slice (some ⟨_, _, none⟩) _ code => if code % 2 = 0 then some (goInt (code / 2)) else none
    | _, _ => none
def xclear (P : Program) (ts : List TypeId) (x : Value) (H : AHeap) : Option (Value × AHeap) :=
  match ts with
  | [] => none
  | t :: _ => match P.underlying t, x with
    | some (.slice _), .slice none 0 0 => some (.tuple #[], H)
    | some (.slice e), .slice (some ⟨b, o, none⟩) n _ =>
      if n = 0 then some (.tuple #[], H) else (zrow P e).bind fun z => (stL H b o (zeros z n)).map fun H' => (.tuple #[], H')
    | some (.map _ _), .map none => some (.tuple #[], H)
    | some (.map _ _), .map (some b) => (match H.f b with
      | .map _ => some (.tuple #[], H.set b (.map []))
      | _ => none)
    | _, _ => none
def WU (P : Program) (t : TypeId) (r : Option Value) (H : AHeap) : Option (Value × AHeap) :=
  match P.underlying t, r with
  | some (.map _ _), none | some (.map _ _), some (.int _ _) => some (.map (some H.n), H.push (.map []))
  | _, _ => none
def Yz : Value → Option Value
  | .pointer (some a) => some (.pointer (some a))
  | .func (.func f) x c => some (.func (.func f) x c)
  | _ => none
inductive DNext where
  | val (v : Value) (H : AHeap)
  | enter (f : FuncId) (args : List Value)
def bare (o : Option Value) (H : AHeap) : Option DNext := o.map fun v => .val v H
def both (o : Option (Value × AHeap)) : Option DNext := o.map fun r => .val r.1 r.2
def quiet (o : Option AHeap) : Option DNext := o.map fun H => .val undef H
def YN (P : Program) (b : Builtin) (ts : List TypeId) (args : List Value) (H : AHeap) : Option DNext :=
  match b, args with
  | .append, [s, x] => both (Za P ts s x H)
  | .len, [x] => bare (xlenM P ts x H) H
  | .copy, [d, s] => both (xcopy P ts d s H)
  | .clear, [x] => both (xclear P ts x H)
  | .delete, [m, k] => both (QE P ts m k H)
  | .min, [.string a, .string b] => some (.val (.string (if Op.bytesLess (bl a) (bl b) || bl a == bl b then a else b)) H)
  | .max, [.string a, .string b] => some (.val (.string (if !(Op.bytesLess (bl a) (bl b)) then a else b)) H)
  | .min, args => if args.all (gr 9) then bare (pvg P (Builtin.min_ #[] 0 args.toArray)) H else none
  | .max, args => if args.all (gr 9) then bare (pvg P (Builtin.max_ #[] 0 args.toArray)) H else none
  | .cap, [x] => bare (xcap P ts x) H
  | _, _ => none
def noRow (n : String) : Bool := (Extern.allGenericRows.lookup n).isNone && (Extern.allTypedRows.lookup n).isNone && (Extern.allRows.lookup n).isNone && (Extern.allNextRows.lookup n).isNone
def xext (P : Program) (fn : Func) (args : List Value) (H : AHeap) : Option Value :=
  match args with
  | [.string a, .string b] => if fn.name = "internal/bytealg.abigen_runtime_cmpstring" ∧ fn.origin = "" then some (.int .i64 (Lib.compareBytes (bl a) (bl b))) else none
  | [.slice (some ⟨b, o, none⟩) la _, .slice (some ⟨b', _, none⟩) lb _] =>
    if fn.origin = "slices.overlaps" ∧ noRow fn.name = true ∧ la ≠ 0 ∧ lb ≠ 0 then
      match H.f b, H.f b', fn.params.toList with
      | .cells xs e true, .cells (_ :: _) _ _, [t, t'] =>
        match P.underlying t with
        | some (.slice el) => if b ≠ b' ∧ t = t' ∧ tailQ P e = 1 ∧ (V2 P el).isSome = true ∧ o ≤ xs.length then some (.bool false) else none
        | _ => none
      | _, _, _ => none
    else none
  | _ => none
def xcall (P : Program) (f : Value) (args : List Value) (H : AHeap) : Option DNext :=
  match f with
  | .func (.func g) x c => match P.funcs[g]? with
    | some fn => if fn.name = "runtime.NumGoroutine" then none
      else if fn.body.isSome then some (.enter g (x.toList ++ args ++ c.toList))
      else bare (xext P fn (x.toList ++ args ++ c.toList) H) H
    | none => none
  | _ => none
def dOp (P : Program) (ρ : Operand → Value) (o : Op) (H : AHeap) : Option DNext :=
  match o with
  | .move x | .assign x => some (.val (ρ x) H)
  | .pick c a b => match ρ c with | .bool c => some (.val (if c then ρ a else ρ b) H) | _ => none
  | .alloc t => both (xalloc P t H)
  | .box t x => both (XT t (ρ x) H)
  | .build t parts => bare (xbuild P t (parts.toList.map fun p => (p.1, ρ p.2))) H
  | .buildSlice t len parts => both (WT P t len (parts.toList.map fun p => (p.1, ρ p.2)) H)
  | .load t a => bare (UH P t (ρ a) H) H
  | .store t a x => quiet (xstore P t (ρ a) (ρ x) H)
  | .nilCheck x => bare (Yz (ρ x)) H
  | .binOp op t x y _ => bare (Yf P op t x y (ρ x) (ρ y)) H
  | .unOp op _ x => bare (xun P op (ρ x)) H
  | .convert src dst x => both (YP P src dst (ρ x) H)
  | .makeInterface t x => if (match P.underlying t with | some (.interface _) | none => false | _ => true) then some (.val (.iface t (ρ x)) H) else none
  | .makeFunc (.func f) x c => some (.val (.func (.func f) (x.map ρ) (c.map ρ)) H)
  | .makeSlice t l c => both (Vp P t (ρ l) (ρ c) H)
  | .slice t x lo hi mx => bare (X3 P t (ρ x) (lo.map ρ) (hi.map ρ) (mx.map ρ) H) H
  | .fieldAddr t x f => bare (U8 P t (ρ x) f) H
  | .field t x f => bare (xfield P t (ρ x) f) H
  | .indexAddr t x i => bare (U0 P t (ρ x) (ρ i)) H
  | .index t x i => bare (Uj P t (ρ x) (ρ i)) H
  | .extract x i => bare (Yn (ρ x) i) H
  | .makeMap t r => both (WU P t (r.map ρ) H)
  | .lookup t x ix ok => bare (Xb P t (ρ x) (ρ ix) ok H) H
  | .mapUpdate t m k x => quiet (Y8 P t (ρ m) (ρ k) (ρ x) H)
  | .insert t m k x => quiet (Y8 P t (ρ m) (ρ k) (ρ x) H)
  | .call c => match c.callee with
    | .builtin b => YN P b c.argTypes.toList (c.args.toList.map ρ) H
    | .value f => xcall P (ρ f) (c.args.toList.map ρ) H
    | .invoke _ _ => none
  | _ => none
end Go.Proofs.YtmiinbhnfojnbaaDoor.Eng

namespace Go.Proofs.YtmiinbhnfojnbaaDoor.Eng
open Go
variable {P : Program} {B : Nat} {ι : Emb} {H : AHeap} {w : World}
theorem pv_run {α : Type} : ∀ {s : Sem α} {a : α}, pv P s = some a → s.run P w = .ok a w := by
  intro s
  induction s with
  | pure b => intro a h; simp [pv] at h; subst h; rfl
  | program k ih => intro a h; simp only [pv] at h; simp only [Sem.run]; exact ih P h
  | _ => intro a h; simp [pv] at h
theorem under_info {t : TypeId} {d : TypeDesc} (h : P.underlying t = some d) : ∃ i, P.info? t = some i := by
  unfold Program.underlying at h
  cases hi : P.info? t with
  | none => simp [hi] at h
  | some i => exact ⟨i, rfl⟩
theorem VK {t : TypeId} {i : TypeInfo} (h : P.info? t = some i) : P.cellsOf t = i.size := by simp [Program.cellsOf, h]
theorem Qm {t : TypeId} {i : TypeInfo} (h : P.info? t = some i) : (sizeOf t).run P w = .ok (P.cellsOf t) w := by
  simp [sizeOf, typeInfo, h, VK h]
theorem row_info {t : TypeId} {b : Bool} (h : row? P t = some b) : ∃ i, P.info? t = some i := by
  unfold row? at h
  cases hu : P.underlying t with
  | none => simp [hu] at h
  | some d => exact under_info hu
theorem row_run {t : TypeId} {b : Bool} (h : row? P t = some b) : (isAgg t).run P w = .ok b w := by
  unfold row? at h
  unfold isAgg
  cases hu : P.underlying t with
  | none => simp [hu] at h
  | some d =>
    rw [Sem.run_bind, run_underlying hu w]
    cases d <;> simp_all
@[simp] theorem add_none (b o n : Nat) : (⟨b, o, none⟩ : Addr).add n = ⟨b, o + n, none⟩ := by unfold Addr.add; split <;> simp_all
theorem Rel.cell (r : Rel P B ι H w) {b : Nat} {L : Loc} (hb : ι b = some L) {xs : List Value} {e : TypeId} {rw : Bool} (hH : H.f b = .cells xs e rw) {o : Nat} {v : Value} (hv : xs[o]? = some v) :
    ∃ v', w.cell? ⟨L.cb, L.base + o, none⟩ = some v' ∧ RV ι v v' := by
  have h := r.blk b L hb
  rw [hH] at h
  obtain ⟨cs, e', fr, h1, _, _, h4, _⟩ := h
  obtain ⟨v', hv', hr⟩ := h4 o v hv
  exact ⟨v', by simp [World.cell?, h1, hv'], hr⟩
theorem Rel.list (r : Rel P B ι H w) {b : Nat} {L : Loc} (hb : ι b = some L) {xs : List Value} {e : TypeId} {rw : Bool} (hH : H.f b = .cells xs e rw) : ∀ (n o : Nat), o + n ≤ xs.length →
    ∃ l, RVs ι ((xs.drop o).take n) l ∧ l.length = n ∧ ∀ j v, l[j]? = some v → w.cell? ⟨L.cb, L.base + o + j, none⟩ = some v
  | 0, o, _ => ⟨[], by simp; exact .nil, rfl, fun j v h => by simp at h⟩
  | n + 1, o, h => by
    obtain ⟨l, h1, h2, h3⟩ := Rel.list r hb hH n (o + 1) (by omega)
    have ho : o < xs.length := by omega
    obtain ⟨v', hv', hr⟩ := r.cell hb hH (List.getElem?_eq_getElem ho)
    refine ⟨v' :: l, ?_, by simp [h2], fun j v hj => ?_⟩
    · rw [List.drop_eq_getElem_cons ho, List.take_succ_cons]
      exact .cons hr h1
    · cases j with
      | zero => simp at hj; subst hj; simpa using hv'
      | succ j => have := h3 j v (by simpa using hj); rwa [show L.base + o + (j + 1) = L.base + (o + 1) + j by omega]
theorem cut_inv {b o n : Nat} {l : List Value} (h : cut H b o n = some l) : ∃ xs e rw, H.f b = .cells xs e rw ∧ o + n ≤ xs.length ∧ l = (xs.drop o).take n := by
  unfold cut at h
  cases hH : H.f b with
  | cells xs e rw =>
    simp only [hH] at h
    split at h
    · exact ⟨xs, e, rw, rfl, by assumption, by simpa using h.symm⟩
    · simp at h
  | dead => simp [hH] at h
  | map es => simp [hH] at h
  | siter s p => simp [hH] at h
theorem Rel.cut (r : Rel P B ι H w) {b : Nat} {L : Loc} (hb : ι b = some L) {o n : Nat} {l : List Value} (h : cut H b o n = some l) :
    ∃ l', RVs ι l l' ∧ l'.length = n ∧ ∀ j v, l'[j]? = some v → w.cell? ⟨L.cb, L.base + o + j, none⟩ = some v := by
  obtain ⟨xs, e, rw, hH, hn, rfl⟩ := cut_inv h
  exact r.list hb hH n o hn
theorem Rel.loadCells (r : Rel P B ι H w) {b : Nat} {L : Loc} (hb : ι b = some L) {o n : Nat} {l : List Value} (h : Eng.cut H b o n = some l) :
    ∃ l', RVs ι l l' ∧ l'.length = n ∧ (loadCells ⟨L.cb, L.base + o, none⟩ n).run P w = .ok l'.toArray w := by
  obtain ⟨l', h1, h2, h3⟩ := r.cut hb h
  refine ⟨l', h1, h2, ?_⟩
  rw [← h2]
  exact run_loadCells_list (P := P) w _ l' fun j v hv => by rw [add_none]; exact h3 j v hv
theorem ld1_sound (r : Rel P B ι H w) {a a' v : Value} (ha : RV ι a a') (h : ld1 H a = some v) {t : TypeId} (ht : row? P t = some false) :
    ∃ v', (Instr.loadAt t a').run P w = .ok v' w ∧ RV ι v v' := by
  unfold ld1 at h
  split at h
  · rename_i b o
    cases ha with
    | ptr hb =>
      split at h
      · rename_i xs e rw hH
        obtain ⟨v', hv', hr⟩ := r.cell hb hH h
        exact ⟨v', by simp [Instr.loadAt, Instr.sureAddr, loadVar, row_run ht, hv'], hr⟩
      · simp at h
  · simp at h
theorem ldN_sound (r : Rel P B ι H w) {a a' v : Value} (ha : RV ι a a') {t : TypeId} (h : ldN (P.cellsOf t) H a = some v) (ht : row? P t = some true) :
    ∃ v', (Instr.loadAt t a').run P w = .ok v' w ∧ RV ι v v' := by
  obtain ⟨i, hi⟩ := row_info ht
  unfold ldN at h
  split at h
  · rename_i b o
    cases ha with
    | ptr hb =>
      simp only [Option.map_eq_some_iff] at h
      obtain ⟨l, hl, rfl⟩ := h
      obtain ⟨l', h1, h2, h3⟩ := r.loadCells hb hl
      exact ⟨.agg l'.toArray, by simp [Instr.loadAt, Instr.sureAddr, loadVar, row_run ht, Qm hi, h3], h1.agg⟩
  · simp at h
theorem xload_sound (r : Rel P B ι H w) {a a' v : Value} (ha : RV ι a a') {t : TypeId} (h : UH P t a H = some v) :
    ∃ v', (Instr.loadAt t a').run P w = .ok v' w ∧ RV ι v v' := by
  unfold UH at h
  split at h
  · exact ldN_sound r ha h (by assumption)
  · exact ld1_sound r ha h (by assumption)
  · simp at h
def up (ι : Emb) (n : Nat) (L : Loc) : Emb := fun b => if b = n then some L else ι b
theorem up_ext (r : Rel P B ι H w) (L : Loc) : ∀ b M, ι b = some M → up ι H.n L b = some M := by
  intro b M h
  have := (r.lt b M h).1
  simp [up, show b ≠ H.n by omega, h]
theorem alloc_size (w : World) (o : Obj) : (w.alloc o).heap.size = w.heap.size + 1 := by show (w.heap.push o).size = _; simp
theorem push_heap (w : World) (o : Obj) : (w.alloc o).heap[w.heap.size]? = some o := by show (w.heap.push o)[w.heap.size]? = _; simp
theorem push_heap_old (w : World) (o : Obj) {k : Nat} (h : k < w.heap.size) : (w.alloc o).heap[k]? = w.heap[k]? := RowKit.Below.heap_alloc w o k h
theorem Rel.lay (r : Rel P B ι H w) (k : Blk) (L : Loc) {w' : World} (hcb : L.cb < w'.heap.size) (hsz : w.heap.size ≤ w'.heap.size) (hk : RB P B ι w' L k)
    (hfree : ∀ b M, ι b = some M → Xf (H.f b) = true → M.cb ≠ L.cb) (hlb : B ≤ L.cb) (hold : ∀ c, c < w.heap.size → c ≠ L.cb → w'.heap[c]? = w.heap[c]?) :
    Rel P B (up ι H.n L) (H.push k) w' := by
  have hup := up_ext r L
  constructor
  · intro b M h
    by_cases hb : b = H.n
    · subst hb
      simp [up] at h
      subst h
      simpa using hk.mono hup
    · simp [up, hb] at h
      rw [AHeap.push_old _ _ hb]
      by_cases hal : Xf (H.f b) = true
      · exact ((r.blk b M h).keep (hold _ (r.lt b M h).2 (hfree b M h hal))).mono hup
      · cases hq : H.f b with
        | dead => trivial
        | _ => simp [hq, Xf] at hal
  · intro b M h
    by_cases hb : b = H.n
    · subst hb
      simp [up] at h
      subst h
      simpa using hcb
    · simp [up, hb] at h
      have := r.lt b M h
      simp
      omega
  · intro b c M N hM hN hne ho hal
    by_cases hb : b = H.n
    · by_cases hc : c = H.n
      · omega
      · simp [up, hb] at hM
        simp [up, hc] at hN
        rw [AHeap.push_old _ _ hc] at hal
        subst hM
        exact (hfree c N hN hal).symm
    · by_cases hc : c = H.n
      · simp [up, hb] at hM
        simp [up, hc] at hN
        rw [AHeap.push_old _ _ hb] at ho
        subst hN
        exact hfree b M hM (W7 ho)
      · simp [up, hb] at hM
        simp [up, hc] at hN
        rw [AHeap.push_old _ _ hb] at ho
        rw [AHeap.push_old _ _ hc] at hal
        exact r.inj b c M N hM hN hne ho hal
  · exact Nat.le_trans r.base hsz
  · intro b
    have h0 := r.ver b
    by_cases hb : b = H.n
    · subst hb; simp; omega
    · rw [AHeap.push_ver _ _ hb]; simpa using h0
  · exact r.glob.keep (Nat.le_refl _) fun c hc => hold c (Nat.lt_of_lt_of_le hc r.base) (by omega)
theorem Rel.pushW (r : Rel P B ι H w) (k : Blk) (L : Loc) {w' : World} (hcb : L.cb = w.heap.size) (hsz : w'.heap.size = w.heap.size + 1) (hk : RB P B ι w' L k)
    (hold : ∀ c, c < w.heap.size → w'.heap[c]? = w.heap[c]?) (hos : w'.os = w.os) (htape : w'.tape = w.tape) (hout : w'.output = w.output) :
    Rel P B (up ι H.n L) (H.push k) w' ∧ Stp ι H w (up ι H.n L) (H.push k) w' := by
  refine ⟨r.lay k L (by omega) (by omega) hk (fun b M h _ => by have := (r.lt b M h).2; omega) (by have := r.base; omega) (fun c hc _ => hold c hc), ?_⟩
  constructor
  · intro b hb; simp [up, show b ≠ H.n by omega]
  · simp
  · omega
  · exact hos
  · exact htape
  · exact hout
  · intro c hc _; exact hold c hc
  · intro b M hb h
    by_cases hbn : b = H.n
    · simp [up, hbn] at h
      subst h
      exact .inl (by omega)
    · simp [up, hbn] at h
      have := (r.lt b M h).1
      omega
  · intro b _ hb _ ho
    rwa [AHeap.push_old _ _ (by omega)] at ho
  · exact VO.push _ _
theorem Rel.push (r : Rel P B ι H w) (o : Obj) (k : Blk) (L : Loc) (hcb : L.cb = w.heap.size) (hk : RB P B ι (w.alloc o) L k) :
    Rel P B (up ι H.n L) (H.push k) (w.alloc o) ∧ Stp ι H w (up ι H.n L) (H.push k) (w.alloc o) :=
  r.pushW k L hcb (alloc_size w o) hk (fun c hc => push_heap_old w o hc) rfl rfl rfl
theorem set_verlt (r : Rel P B ι H w) (b : Nat) (k : Blk) : ∀ c, (H.set b k).ver c < (H.set b k).clk := by
  intro c
  have := r.ver c
  by_cases h : c = b
  · subst h; simp
  · rw [AHeap.set_ver _ _ h]; simp; omega
theorem Rel.kill (r : Rel P B ι H w) (b : Nat) : Rel P B ι (H.set b .dead) w ∧ Stp ι H w ι (H.set b .dead) w := by
  have hown : ∀ c, XW ((H.set b .dead).f c) = true → XW (H.f c) = true := by
    intro c h
    by_cases hc : c = b
    · subst hc; simp [XW] at h
    · rwa [AHeap.set_other _ _ hc] at h
  have hal : ∀ c, Xf ((H.set b .dead).f c) = true → Xf (H.f c) = true := by
    intro c h
    by_cases hc : c = b
    · subst hc; simp [Xf] at h
    · rwa [AHeap.set_other _ _ hc] at h
  constructor
  · refine ⟨fun c L h => ?_, r.lt, fun c d M N hM hN hne ho ha => r.inj c d M N hM hN hne (hown c ho) (hal d ha), r.base, set_verlt r b _, r.glob⟩
    by_cases hc : c = b
    · subst hc; simp [RB]
    · rw [AHeap.set_other _ _ hc]; exact r.blk c L h
  · exact ⟨fun _ _ => rfl, by simp, Nat.le_refl _, rfl, rfl, rfl, fun _ _ _ => rfl, fun c L hc h => absurd (r.lt c L h).1 (by simpa using hc), fun c _ _ _ h => hown c h, VO.set _ _ _ (by simp [Xf])⟩
theorem Rel.congr (r : Rel P B ι H w) {w' : World} (h : w'.heap = w.heap) : Rel P B ι H w' :=
  ⟨fun b L hb => (r.blk b L hb).keep (by rw [h]), fun b L hb => by rw [h]; exact r.lt b L hb, r.inj, by rw [h]; exact r.base, r.ver, r.glob.keep (Nat.le_refl _) fun c _ => by rw [h]⟩
theorem Rel.drew (r : Rel P B ι H w) : Rel P B ι H w.drew := r.congr rfl
theorem Stp.drew (hι : ∀ b L, ι b = some L → b < H.n) : Stp ι H w ι H w.drew :=
  ⟨fun _ _ => rfl, Nat.le_refl _, Nat.le_refl _, rfl, rfl, rfl, fun _ _ _ => rfl, fun b L hb h => absurd (hι b L h) (by omega), fun _ _ _ _ h => h, VO.refl _⟩
theorem RB.fresh (r : Rel P B ι H w) {l l' rest : List Value} (hl : RVs ι l l') (t : TypeId) :
    RB P B ι (w.alloc (.cells (l' ++ rest).toArray t)) ⟨w.heap.size, 0, P.cellsOf t, (l' ++ rest).length⟩ (.cells l t true) := by
  refine ⟨(l' ++ rest).toArray, t, (0, 0), push_heap _ _, by simp, by simp [hl.length], fun i v hv => ?_, fun _ => ⟨r.base, rfl, rfl, fun j _ => by omega⟩⟩
  obtain ⟨v', hv', hr⟩ := hl.get hv
  refine ⟨v', ?_, hr⟩
  have : i < l'.length := (List.getElem?_eq_some_iff.1 hv').1
  simp [List.getElem?_append_left this, hv']
theorem flat_sound {v v' : Value} (h : RV ι v v') {l : List Value} (hf : flat v = some l) : RVs ι l v'.cells.toList := by
  cases h with
  | unk c => simp [flat] at hf
  | agg h1 h2 => simp [flat] at hf; subst hf; exact RVs.of_arr h1 h2
  | tup => simp [flat] at hf
  | ptr h => simp [flat] at hf; subst hf; exact .cons (.ptr h) .nil
  | sle h hn => simp [flat] at hf; subst hf; exact .cons (.sle h hn) .nil
  | sli h hc hn ht => simp [flat] at hf; subst hf; exact .cons (.sli h hc hn ht) .nil
  | sl0 hk => simp [flat] at hf; subst hf; exact .cons (.sl0 hk) .nil
  | map h => simp [flat] at hf; subst hf; exact .cons (.map h) .nil
  | func h1 h2 h3 h4 => simp [flat] at hf; subst hf; exact .cons (.func h1 h2 h3 h4) .nil
  | iface h => simp [flat] at hf; subst hf; exact .cons (.iface h) .nil
  | bool b => simp [flat] at hf; subst hf; exact .cons (.bool b) .nil
  | int k n => simp [flat] at hf; subst hf; exact .cons (.int k n) .nil
  | flo k n => simp [flat] at hf; subst hf; exact .cons (.flo k n) .nil
  | str s => simp [flat] at hf; subst hf; exact .cons (.str s) .nil
  | nilp => simp [flat] at hf; subst hf; exact .cons .nilp .nil
  | nils => simp [flat] at hf; subst hf; exact .cons .nils .nil
  | nilm => simp [flat] at hf; subst hf; exact .cons .nilm .nil
  | nilfn => simp [flat] at hf; subst hf; exact .cons .nilfn .nil
  | nili => simp [flat] at hf; subst hf; exact .cons .nili .nil
def XR (P : Program) (B : Nat) (ι : Emb) (H : AHeap) (w : World) (v : Value) (H' : AHeap) (r : Result Value) : Prop :=
  ∃ ι' v' w', r = .ok v' w' ∧ RV ι' v v' ∧ Rel P B ι' H' w' ∧ Stp ι H w ι' H' w'
theorem XR.still (r : Rel P B ι H w) {v v' : Value} (h : RV ι v v') {x : Result Value} (hx : x = .ok v' w) : XR P B ι H w v H x :=
  ⟨ι, v', w, hx, h, r, Stp.refl _ _ _ r.dom⟩
theorem newv_sound (r : Rel P B ι H w) {t : TypeId} {v v' a : Value} {H' : AHeap} (hv : RV ι v v') (h : XT t v H = some (a, H')) :
    XR P B ι H w a H' ((do pure (.pointer (some (← newVar t v'))) : Sem Value).run P w) := by
  unfold XT at h
  simp only [Option.map_eq_some_iff] at h
  obtain ⟨l, hl, h⟩ := h
  cases h
  have hc := flat_sound hv hl
  have hb : RB P B ι (w.alloc (.cells v'.cells t)) ⟨w.heap.size, 0, P.cellsOf t, v'.cells.size⟩ (.cells l t true) := by
    have := RB.fresh (rest := []) r hc t
    simpa using this
  obtain ⟨r', s'⟩ := r.push _ _ ⟨w.heap.size, 0, P.cellsOf t, v'.cells.size⟩ rfl hb
  refine ⟨_, .pointer (some ⟨w.heap.size, 0, none⟩), w.alloc (.cells v'.cells t), ?_, ?_, r', s'⟩
  · simp [newVar, newRow]
  · exact .ptr (b := H.n) (o := 0) (L := ⟨w.heap.size, 0, P.cellsOf t, v'.cells.size⟩) (by simp [up])
theorem Qo {t : TypeId} {z : Value} (h : zero? P t = some z) : ∃ i, P.info? t = some i ∧ i.zero = some z ∧ gr 9 z = true := by
  unfold zero? at h
  split at h
  · rename_i i hi
    split at h
    · rename_i z' hz
      split at h
      · rename_i hg
        simp at h
        subst h
        exact ⟨i, hi, hz, hg⟩
      · simp at h
    · simp at h
  · simp at h
theorem xalloc_sound (r : Rel P B ι H w) {t : TypeId} {a : Value} {H' : AHeap} (h : xalloc P t H = some (a, H')) :
    XR P B ι H w a H' ((Instr.alloc t true (.tuple #[])).run P w) := by
  unfold xalloc at h
  simp only [Option.bind_eq_some_iff] at h
  obtain ⟨z, hz, h⟩ := h
  obtain ⟨i, hi, hz', hg⟩ := Qo hz
  have := newv_sound r (Wc hg) h
  simpa [Instr.alloc, zeroValue, typeInfo, hi, hz'] using this
def splA : Array Value → Nat → List Value → Array Value
  | cs, _, [] => cs
  | cs, o, v :: r => splA (cs.setIfInBounds o v) (o + 1) r
@[simp] theorem splA_size : ∀ (vs : List Value) (cs : Array Value) (o : Nat), (splA cs o vs).size = cs.size
  | [], _, _ => rfl
  | _ :: r, cs, o => by simp [splA, splA_size r]
@[simp] theorem Xz : ∀ (vs : List Value) (xs : List Value) (o : Nat), (spl xs o vs).length = xs.length
  | [], _, _ => rfl
  | _ :: r, xs, o => by simp [spl, Xz r]
theorem setCell_heap (w : World) (g o : Nat) (v : Value) {cs : Array Value} {e : TypeId} {fr : Nat × Nat} (h : w.heap[g]? = some (.cells cs e fr)) :
    (w.setCell ⟨g, o, none⟩ v).heap[g]? = some (.cells (cs.setIfInBounds o v) e fr) := by
  simp [World.setCell, Array.getElem?_modify, h]
theorem ZB : ∀ (vs : List Value) (g o : Nat) (w : World) {cs : Array Value} {e : TypeId} {fr : Nat × Nat}, w.heap[g]? = some (.cells cs e fr) →
    (w.setCells g o vs).heap[g]? = some (.cells (splA cs o vs) e fr) ∧ (∀ k, k ≠ g → (w.setCells g o vs).heap[k]? = w.heap[k]?) ∧ (w.setCells g o vs).heap.size = w.heap.size ∧
      (w.setCells g o vs).os = w.os ∧ (w.setCells g o vs).tape = w.tape ∧ (w.setCells g o vs).output = w.output
  | [], g, o, w, cs, e, fr, h => ⟨h, fun _ _ => rfl, rfl, rfl, rfl, rfl⟩
  | v :: r, g, o, w, cs, e, fr, h => by
    obtain ⟨h1, h2, h3, h4, h5, h6⟩ := ZB r g (o + 1) (w.setCell ⟨g, o, none⟩ v) (setCell_heap w g o v h)
    refine ⟨h1, fun k hk => (h2 k hk).trans (RowKit.Below.heap_setCell w ⟨g, o, none⟩ v k hk), h3.trans (by simp [World.setCell]), h4, h5, h6⟩
theorem spl_rel : ∀ {vs vs' : List Value}, RVs ι vs vs' → ∀ {xs : List Value} {cs : Array Value} {base o : Nat}, base + xs.length ≤ cs.size →
    (∀ i v, xs[i]? = some v → ∃ v', cs[base + i]? = some v' ∧ RV ι v v') → ∀ i v, (spl xs o vs)[i]? = some v → ∃ v', (splA cs (base + o) vs')[base + i]? = some v' ∧ RV ι v v' := by
  intro vs vs' h
  induction h with
  | nil => intro xs cs base o _ h i v hv; exact h i v hv
  | @cons a a' l l' ha _ ih =>
    intro xs cs base o hs h i v hv
    have := ih (xs := xs.set o a) (cs := cs.setIfInBounds (base + o) a') (base := base) (o := o + 1) (by simpa using hs) (fun j u hu => by
      by_cases hj : j = o
      · subst hj
        have hlt : j < xs.length := by
          have := (List.getElem?_eq_some_iff.1 hu).1
          simpa using this
        rw [List.getElem?_set_self hlt] at hu
        cases hu
        exact ⟨a', by rw [Array.getElem?_setIfInBounds_self_of_lt (by omega)], ha⟩
      · rw [List.getElem?_set_ne (Ne.symm hj)] at hu
        obtain ⟨u', hu', hr⟩ := h j u hu
        exact ⟨u', by rw [Array.getElem?_setIfInBounds_ne (by omega)]; exact hu', hr⟩) i v hv
    simpa [splA, Nat.add_assoc] using this
theorem one_sound {v v' : Value} (h : RV ι v v') (h1 : one v = true) : v'.oneCell' = true := by
  cases h <;> first | rfl | simp [one] at h1
theorem ones_sound {vs vs' : List Value} (h : RVs ι vs vs') (h1 : vs.all one = true) : ∀ v ∈ vs', v.oneCell' = true := by
  induction h with
  | nil => intro v hv; cases hv
  | cons h _ ih =>
    simp only [List.all_cons, Bool.and_eq_true] at h1
    intro v hv
    rcases List.mem_cons.1 hv with rfl | hv
    · exact one_sound h h1.1
    · exact ih h1.2 v hv
theorem Rel.turn (r : Rel P B ι H w) {b : Nat} {L : Loc} (hb : ι b = some L) (ho : XW (H.f b) = true) (k : Blk) {w' : World} (hk : RB P B ι w' L k)
    (hsz : w'.heap.size = w.heap.size) (hkeep : ∀ c, c ≠ L.cb → w'.heap[c]? = w.heap[c]?) (hos : w'.os = w.os) (htape : w'.tape = w.tape) (hout : w'.output = w.output) :
    Rel P B ι (H.set b k) w' ∧ Stp ι H w ι (H.set b k) w' := by
  constructor
  · constructor
    · intro c M h
      by_cases hc : c = b
      · subst hc
        rw [hb] at h
        cases h
        simpa using hk
      · rw [AHeap.set_other _ _ hc]
        by_cases hal : Xf (H.f c) = true
        · exact (r.blk c M h).keep (hkeep _ (fun e => r.inj b c L M hb h (Ne.symm hc) ho hal e.symm))
        · cases hq : H.f c with
          | dead => trivial
          | _ => simp [hq, Xf] at hal
    · intro c M h; rw [hsz]; exact r.lt c M h
    · intro c d M N hM hN hne hoc hal
      have hoc' : XW (H.f c) = true := by
        by_cases hc : c = b
        · subst hc; exact ho
        · rwa [AHeap.set_other _ _ hc] at hoc
      have hal' : Xf (H.f d) = true := by
        by_cases hd : d = b
        · subst hd; exact W7 ho
        · rwa [AHeap.set_other _ _ hd] at hal
      exact r.inj c d M N hM hN hne hoc' hal'
    · rw [hsz]; exact r.base
    · exact set_verlt r b k
    · have hlb : B ≤ L.cb := by
        have h := r.blk b L hb
        cases hq : H.f b with
        | dead => rw [hq] at ho; cases ho
        | cells xs e rw' =>
          rw [hq] at h ho
          obtain ⟨cs, e', fr, _, _, _, _, h5⟩ := h
          exact (h5 (by simpa [XW] using ho)).1
        | map es => rw [hq] at h; exact h.1
        | siter t pos => rw [hq] at h; exact h.1
      exact r.glob.keep (Nat.le_refl _) fun c hc => hkeep c (by omega)
  · constructor
    · intro _ _; rfl
    · simp
    · rw [hsz]; exact Nat.le_refl _
    · exact hos
    · exact htape
    · exact hout
    · intro c _ h; exact hkeep c (fun e => h b L hb ho e.symm)
    · intro c M hc h; have := (r.lt c M h).1; omega
    · intro c _ _ _ hoc
      by_cases hc : c = b
      · subst hc; exact ho
      · rwa [AHeap.set_other _ _ hc] at hoc
    · exact VO.set _ _ _ (fun _ => W7 ho)
theorem Rel.stored (r : Rel P B ι H w) {b : Nat} {L : Loc} (hb : ι b = some L) {xs : List Value} {e : TypeId} (hH : H.f b = .cells xs e true) {o : Nat} {vs vs' : List Value} (hvs : RVs ι vs vs')
    (hfit : o + vs.length ≤ xs.length) (h1 : vs.all one = true) :
    (storeCells ⟨L.cb, L.base + o, none⟩ vs').run P w = .ok () (w.setCells L.cb (L.base + o) vs') ∧
    Rel P B ι (H.set b (.cells (spl xs o vs) e true)) (w.setCells L.cb (L.base + o) vs') ∧ Stp ι H w ι (H.set b (.cells (spl xs o vs) e true)) (w.setCells L.cb (L.base + o) vs') := by
  have h := r.blk b L hb
  rw [hH] at h
  obtain ⟨cs, e', fr, g1, g2, g3, g4, g5⟩ := h
  obtain ⟨gB, rfl, gsz, gfr⟩ := g5 rfl
  obtain ⟨s1, s2, s3, s4, s5, s6⟩ := ZB vs' L.cb (L.base + o) w g1
  have hlen := hvs.length
  refine ⟨?_, ?_⟩
  · have := run_storeCells_cells (P := P) L.cb (L.base + o) vs' 0 w (fun j hj => by
        have : L.base + o + 0 + j < cs.size := by omega
        simp only [World.cell?, g1]
        simp
        omega) (fun j hj => by
        have := gfr (L.base + o + 0 + j) (by omega)
        simp only [World.frozen?, g1]
        simp
        omega) (ones_sound hvs h1)
    simpa using this
  · refine r.turn hb (by rw [hH]; rfl) _ ?_ s3 s2 s4 s5 s6
    exact ⟨_, e', fr, s1, by simpa using g2, by simpa using g3, fun i v hv => spl_rel hvs g3 g4 i v hv, fun _ => ⟨gB, rfl, gsz, by simpa using gfr⟩⟩
theorem stL_inv {b o : Nat} {vs : List Value} {H' : AHeap} (h : stL H b o vs = some H') : ∃ xs e, H.f b = .cells xs e true ∧ o + vs.length ≤ xs.length ∧ vs.all one = true ∧ H' = H.set b (.cells (spl xs o vs) e true) := by
  unfold stL at h
  split at h
  · rename_i xs e hH
    split at h
    · split at h
      · exact ⟨xs, e, hH, by assumption, by assumption, by simpa using h.symm⟩
      · simp at h
    · simp at h
  · simp at h
theorem st1_sound (r : Rel P B ι H w) {a a' v v' : Value} (ha : RV ι a a') (hv : RV ι v v') {H' : AHeap} (h : st1 H a v = some H') {t : TypeId} (hi : ∃ i, P.info? t = some i) (ht : P.cellsOf t = 1) :
    ∃ w', (Instr.storeAt t a' v').run P w = .ok () w' ∧ Rel P B ι H' w' ∧ Stp ι H w ι H' w' := by
  obtain ⟨i, hi⟩ := hi
  unfold st1 at h
  split at h
  · rename_i b o
    cases ha with
    | ptr hb =>
      split at h
      · rename_i xs e hH
        split at h
        · rename_i ho
          split at h
          · rename_i h1
            simp at h
            subst h
            obtain ⟨k1, k2, k3⟩ := r.stored hb hH (o := o) (.cons hv .nil) (by simp; omega) (by simp [h1])
            refine ⟨_, ?_, k2, k3⟩
            have hc : v'.cells = #[v'] := by
              have := one_sound hv h1
              cases v' <;> simp_all [Value.cells, Value.oneCell']
            simp [Instr.storeAt, Instr.sureAddr, storeVar, Qm hi, ht, hc, k1]
          · simp at h
        · simp at h
      · simp at h
  · simp at h
theorem stN_sound (r : Rel P B ι H w) {a a' v v' : Value} (ha : RV ι a a') (hv : RV ι v v') {H' : AHeap} {t : TypeId} (h : stN (P.cellsOf t) H a v = some H') (hi : ∃ i, P.info? t = some i) :
    ∃ w', (Instr.storeAt t a' v').run P w = .ok () w' ∧ Rel P B ι H' w' ∧ Stp ι H w ι H' w' := by
  obtain ⟨i, hi⟩ := hi
  unfold stN at h
  split at h
  · rename_i b o cs
    cases ha with
    | ptr hb =>
      cases hv with
      | agg g1 g2 =>
        split at h
        · rename_i hn
          obtain ⟨xs, e, hH, h1, h2, rfl⟩ := stL_inv h
          obtain ⟨k1, k2, k3⟩ := r.stored hb hH (RVs.of_arr g1 g2) h1 h2
          refine ⟨_, ?_, k2, k3⟩
          simp [Instr.storeAt, Instr.sureAddr, storeVar, Qm hi, Value.cells, ← hn, g1, k1]
        · simp at h
  · simp at h
theorem xstore_sound (r : Rel P B ι H w) {a a' v v' : Value} (ha : RV ι a a') (hv : RV ι v v') {H' : AHeap} {t : TypeId} (h : xstore P t a v H = some H') :
    ∃ w', (Instr.storeAt t a' v').run P w = .ok () w' ∧ Rel P B ι H' w' ∧ Stp ι H w ι H' w' := by
  unfold xstore at h
  split at h
  · exact stN_sound r ha hv h (row_info (by assumption))
  · split at h
    · exact st1_sound r ha hv h (row_info (by assumption)) (by assumption)
    · simp at h
  · simp at h
end Go.Proofs.YtmiinbhnfojnbaaDoor.Eng

namespace Go.Proofs.YtmiinbhnfojnbaaDoor.Eng
open Go
variable {P : Program} {B : Nat} {ι : Emb} {H : AHeap} {w : World}
theorem Qb {s : Sem Value} {v : Value} (h : pvg P s = some v) : pv P s = some v ∧ gr 9 v = true := by
  unfold pvg at h
  split at h
  · rename_i u hu
    split at h
    · simp at h; subst h; exact ⟨hu, by assumption⟩
    · simp at h
  · simp at h
theorem run_under {t : TypeId} {d : TypeDesc} (h : P.underlying t = some d) : (underlying t).run P w = .ok d w := run_underlying h w
theorem mk_bl (s : ByteArray) : mk (bl s) = s := by cases s; rfl
@[simp] theorem YT (l : List UInt8) : bl (mk l) = l := by simp [mk, bl]
theorem Qd (s : ByteArray) : (bl s).length = s.size := by show s.data.toList.length = s.data.size; exact Array.length_toList
theorem bl_toList (s : ByteArray) : s.toList = bl s := ByteArray.toList_eq s
theorem bl_append (a b : ByteArray) : bl (a ++ b) = bl a ++ bl b := by simp [bl]
theorem bl_inj {a b : ByteArray} (h : bl a = bl b) : a = b := by rw [← mk_bl a, ← mk_bl b, h]
theorem strOp_sound {op : BinOp} {a b : ByteArray} {v : Value} (h : strOp op a b = some v) (t : TypeId) (ox oy : Operand) :
    ((do eqGuard op t ox oy (.string a) (.string b); binOp op t (.string a) (.string b)) : Sem Value).run P w = .ok v w ∧ RV ι v v := by
  have hg : (eqGuard op t ox oy (.string a) (.string b)).run P w = .ok () w := by
    unfold eqGuard
    split <;> rfl
  cases op <;> simp only [strOp, reduceCtorEq] at h
  case add =>
    split at h
    · rename_i hl
      rw [Qd, Qd] at hl
      have hl' : ¬ ((a.size : Int) + (b.size : Int) > 9223372036854775807) := by omega
      simp at h
      subst h
      have e : mk (bl a ++ bl b) = a ++ b := by rw [← bl_append, mk_bl]
      rw [e]
      refine ⟨?_, .str _⟩
      have hm : IntKind.i64.max = 9223372036854775807 := by decide
      simp [hg, binOp, Op.stringOp, hm, hl']
    · simp at h
  all_goals
    simp at h
    subst h
    refine ⟨?_, .bool _⟩
    simp [hg, binOp, Op.stringOp, bl_toList]
theorem nilTest_sound {t : TypeId} {x y x' y' : Value} {b : Bool} (hx : RV ι x x') (hy : RV ι y y') (h : Gg P t x y = some b) :
    (Op.equal t x' y').run P w = .ok b w ∧ ∀ op ox oy, (eqGuard op t ox oy x' y').run P w = .ok () w := by
  have key : ∀ {op ox oy}, (∀ a c, ¬ (x' = .agg a ∧ y' = .agg c)) → ¬ (x' = .nilIface ∧ y' = .nilIface) → (eqGuard op t ox oy x' y').run P w = .ok () w := by
    intro op ox oy h1 h2
    unfold eqGuard
    cases hop : !(op matches .eql | .neq) with
    | true => rfl
    | false =>
      simp only [Bool.false_eq_true, if_false]
      cases x' <;> cases y' <;> first
        | rfl
        | (exact absurd ⟨rfl, rfl⟩ h2)
        | (exact absurd ⟨rfl, rfl⟩ (h1 _ _))
  unfold Gg at h
  split at h <;> first
    | (simp at h; done)
    | (cases hx <;> cases hy <;>
        (split at h
         · rename_i hu
           simp at h
           subst h
           refine ⟨?_, fun op ox oy => key (by simp) (by simp)⟩
           show (Op.equalIn (9999 + 1) t _ _).run P w = _
           unfold Op.equalIn
           simp [run_under hu]
         · simp at h))
theorem xbin_sound {op : BinOp} {t : TypeId} {ox oy : Operand} {x y x' y' v : Value} (hx : RV ι x x') (hy : RV ι y y') (h : Yf P op t ox oy x y = some v) :
    ∃ v', ((do eqGuard op t ox oy x' y'; binOp op t x' y') : Sem Value).run P w = .ok v' w ∧ RV ι v v' := by
  unfold Yf at h
  split at h
  · cases hx
    cases hy
    exact ⟨v, strOp_sound h t ox oy⟩
  · split at h
    · rename_i hg
      simp only [Bool.and_eq_true] at hg
      obtain ⟨h1, h2⟩ := Qb h
      rw [gr_eq hg.1 hx, gr_eq hg.2 hy]
      exact ⟨v, pv_run h1, Wc h2⟩
    · split at h
      · simp only [Option.map_eq_some_iff] at h
        obtain ⟨b, hb, rfl⟩ := h
        obtain ⟨h1, h2⟩ := nilTest_sound (w := w) hx hy hb
        refine ⟨.bool b, ?_, .bool b⟩
        have : (binOp .eql t x' y').run P w = .ok (.bool b) w := by
          have e : binOp .eql t x' y' = (do pure (.bool (← Op.equal t x' y')) : Sem Value) := by
            unfold Gg at hb
            split at hb <;> first | (simp at hb; done) | (cases hx <;> cases hy <;> rfl)
          rw [e]
          simp [h1]
        simp [h2, this]
      · simp only [Option.map_eq_some_iff] at h
        obtain ⟨b, hb, rfl⟩ := h
        obtain ⟨h1, h2⟩ := nilTest_sound (w := w) hx hy hb
        refine ⟨.bool !b, ?_, .bool _⟩
        have : (binOp .neq t x' y').run P w = .ok (.bool !b) w := by
          have e : binOp .neq t x' y' = (do pure (.bool (!(← Op.equal t x' y'))) : Sem Value) := by
            unfold Gg at hb
            split at hb <;> first | (simp at hb; done) | (cases hx <;> cases hy <;> rfl)
          rw [e]
          simp [h1]
        simp [h2, this]
      · simp at h
theorem xun_sound {op : UnOp} {x x' v : Value} (hx : RV ι x x') (h : xun P op x = some v) : ∃ v', (Op.unary op x').run P w = .ok v' w ∧ RV ι v v' := by
  unfold xun at h
  split at h
  · rename_i hg
    obtain ⟨h1, h2⟩ := Qb h
    rw [gr_eq hg hx]
    exact ⟨v, pv_run h1, Wc h2⟩
  · simp at h
theorem Ut {t : TypeId} {n : Nat} (h : V2 P t = some n) (w : World) : (sizeOf t).run P w = .ok n w := by
  unfold V2 at h
  simp only [Option.map_eq_some_iff] at h
  obtain ⟨i, hi, rfl⟩ := h
  simp [sizeOf, typeInfo, hi]
theorem sizeQ_cells {t : TypeId} {n : Nat} (h : V2 P t = some n) : P.cellsOf t = n := by
  unfold V2 at h
  simp only [Option.map_eq_some_iff] at h
  obtain ⟨i, hi, rfl⟩ := h
  exact VK hi
theorem xpart_sound {t : TypeId} {x x' : Value} {off : Nat} {v : Value} (hx : RV ι x x')
    (h : xpart P t x off = some v) : ∃ cs' v', x' = .agg cs' ∧ (part t cs' off).run P w = .ok v' w ∧ RV ι v v' := by
  unfold xpart at h
  split at h
  · rename_i ht
    obtain ⟨i, hi⟩ := row_info ht
    unfold prtN at h
    split at h
    · cases hx with
      | agg h1 h2 =>
        rename_i cs cs'
        simp at h
        subst h
        refine ⟨cs', .agg (cs'.extract off (off + P.cellsOf t)), rfl, by simp [part, row_run ht, Qm hi], .agg (by simp [h1]) fun j a b ha hb => ?_⟩
        simp only [Array.getElem?_extract] at ha hb
        split at ha
        · split at hb
          · exact h2 _ _ _ ha hb
          · simp at hb
        · simp at ha
    · simp at h
  · rename_i ht
    unfold prt1 at h
    split at h
    · cases hx with
      | agg h1 h2 =>
        rename_i cs cs'
        have hlt : off < cs.size := (Array.getElem?_eq_some_iff.1 h).1
        refine ⟨cs', cs'[off]'(by omega), rfl, ?_, h2 off _ _ h (Array.getElem?_eq_getElem _)⟩
        simp [part, row_run ht, Array.getElem?_eq_getElem (show off < cs'.size by omega)]
    · simp at h
  · simp at h
theorem xfield_sound {t : TypeId} {x x' v : Value} {f : Nat} (hx : RV ι x x') (h : xfield P t x f = some v) : ∃ v', (Instr.field t x' f).run P w = .ok v' w ∧ RV ι v v' := by
  unfold xfield at h
  split at h
  · rename_i fs hu
    split at h
    · rename_i fd hf
      obtain ⟨cs', v', rfl, hv, hr⟩ := xpart_sound (w := w) hx h
      exact ⟨v', by simp [Instr.field, run_under hu, hf, asAgg, hv], hr⟩
    · simp at h
  · simp at h
theorem xextract_sound {x x' v : Value} {i : Nat} (hx : RV ι x x') (h : Yn x i = some v) : ∃ v', (Instr.extract x' i).run P w = .ok v' w ∧ RV ι v v' := by
  unfold Yn at h
  split at h
  · cases hx with
    | tup h1 h2 =>
      rename_i x'
      have hlt := (Array.getElem?_eq_some_iff.1 h).1
      have hlt' : i < x'.size := by omega
      refine ⟨x'[i], ?_, h2 i _ _ h (Array.getElem?_eq_getElem hlt')⟩
      simp [Instr.extract, Array.getElem?_eq_getElem hlt']
  · simp at h
theorem xfieldAddr_sound {t : TypeId} {x x' v : Value} {f : Nat} (hx : RV ι x x') (h : U8 P t x f = some v) : ∃ v', (Instr.fieldAt t x' f).run P w = .ok v' w ∧ RV ι v v' := by
  unfold U8 at h
  split at h
  · rename_i fs hu
    split at h
    · rename_i fd hf
      split at h
      · simp at h
      · rename_i hz
        unfold fad at h
        split at h
        · cases hx with
          | ptr hb =>
            rename_i b o L
            simp at h
            subst h
            cases hi : P.info? fd.type with
            | none => simp [Program.cellsOf, hi] at hz
            | some i =>
              have hs : (sizeOf fd.type).run P w = .ok (P.cellsOf fd.type) w := Qm hi
              exact ⟨.pointer (some ⟨L.cb, L.base + o + fd.offset, none⟩), by simp [Instr.fieldAt, run_under hu, hf, Instr.sureAddr, fieldPlace, hs, hz], by rw [Nat.add_assoc]; exact .ptr hb⟩
        · simp at h
    · simp at h
  · simp at h
theorem xindexAddr_sound {t : TypeId} {x x' i i' v : Value} (hx : RV ι x x') (hi : RV ι i i') (h : U0 P t x i = some v) : ∃ v', (Instr.indexAt t x' i').run P w = .ok v' w ∧ RV ι v v' := by
  unfold U0 at h
  split at h
  · rename_i e hu
    simp only [Option.bind_eq_some_iff] at h
    obtain ⟨sz, hsz, h⟩ := h
    have hs := Ut hsz w
    unfold ixS at h
    split at h
    · rename_i b o len code k n
      cases hi
      split at h
      · rename_i hn
        simp at h
        subst h
        cases hx with
        | sle hb hc => rename_i c L; exact ⟨.pointer (some ⟨L.cb, L.base + o + n.toNat * sz, none⟩), by simp [Instr.indexAt, asIntOf, run_under hu, hn, hs], by rw [Nat.add_assoc]; exact .ptr hb⟩
        | sli hb hc hn' ht => rename_i c cc L; exact ⟨.pointer (some ⟨L.cb, L.base + o + n.toNat * sz, none⟩), by simp [Instr.indexAt, asIntOf, run_under hu, hn, hs], by rw [Nat.add_assoc]; exact .ptr hb⟩
        | sl0 hk => omega
      · simp at h
    · simp at h
  · rename_i m e hu
    simp only [Option.bind_eq_some_iff] at h
    obtain ⟨sz, hsz, h⟩ := h
    have hs := Ut hsz w
    unfold ixA at h
    split at h
    · rename_i b o k n
      cases hi
      split at h
      · rename_i hn
        simp at h
        subst h
        cases hx with
        | ptr hb => rename_i L; exact ⟨.pointer (some ⟨L.cb, L.base + o + n.toNat * sz, none⟩), by simp [Instr.indexAt, asIntOf, Instr.sureAddr, run_under hu, hn, hs], by rw [Nat.add_assoc]; exact .ptr hb⟩
      · simp at h
    · simp at h
  · simp at h
theorem xindex_sound {t : TypeId} {x x' i i' v : Value} (hx : RV ι x x') (hi : RV ι i i') (h : Uj P t x i = some v) : ∃ v', (Instr.index t x' i').run P w = .ok v' w ∧ RV ι v v' := by
  unfold Uj at h
  split at h
  · rename_i len e k n hu
    cases hi
    simp only [Option.bind_eq_some_iff] at h
    obtain ⟨sz, hsz, h⟩ := h
    have hs := Ut hsz w
    split at h
    · rename_i hn
      obtain ⟨cs', v', rfl, hv, hr⟩ := xpart_sound (w := w) hx h
      exact ⟨v', by simp [Instr.index, asIntOf, run_under hu, hn, hs, hv], hr⟩
    · simp at h
  · rename_i k n hu
    cases hi
    split at h
    · rename_i s
      cases hx
      split at h
      · rename_i hn
        simp only [Option.map_eq_some_iff] at h
        obtain ⟨b, hb, rfl⟩ := h
        have hb' : s[n.toNat]? = some b := by
          have hlt : n.toNat < s.size := by rw [← Qd]; exact (List.getElem?_eq_some_iff.1 hb).1
          rw [getElem?_pos s n.toNat hlt]
          have h2 : (bl s)[n.toNat]? = some (s.data[n.toNat]'(show n.toNat < s.data.size from hlt)) := by simp [bl]
          rw [h2] at hb
          cases hb
          rfl
        exact ⟨Xc b, by simp [Instr.index, asIntOf, run_under hu, hn, hb', Xc], .int _ _⟩
      · simp at h
    · simp at h
  · simp at h
theorem bnd_sound {y y' : Nat} (hy : y ≤ y') {v v' : Value} {n : Nat} (hv : RV ι v v') (h : bnd y v = some n) (code : BoundsCode) :
    (Instr.sliceBound v' y' code).run P w = .ok n w ∧ n ≤ y := by
  unfold bnd at h
  split at h
  · cases hv
    rename_i k i
    split at h
    · rename_i hi
      simp at h
      subst h
      have h2 : 0 ≤ i ∧ i ≤ (y' : Int) := by omega
      refine ⟨?_, by omega⟩
      unfold Instr.sliceBound
      simp [asIntOf, h2]
    · simp at h
  · simp at h
inductive RO (ι : Emb) : Option Value → Option Value → Prop
  | none : RO ι none none
  | some {v v' : Value} (h : RV ι v v') : RO ι (some v) (some v')
theorem lowOf_sound {h0 : Nat} {v v' : Option Value} {n : Nat} (hv : RO ι v v') (h : WN h0 v = some n) (code : BoundsCode) :
    n ≤ h0 ∧ (match v' with | some v => Instr.sliceBound v h0 code | none => (pure 0 : Sem Nat)).run P w = .ok n w := by
  cases hv with
  | none => simp [WN] at h; subst h; exact ⟨Nat.zero_le _, rfl⟩
  | some hv =>
    obtain ⟨h1, h2⟩ := bnd_sound (P := P) (w := w) (Nat.le_refl h0) hv h code
    exact ⟨h2, h1⟩
theorem bounds2 {len cap y : Nat} (hy : y ≤ cap) (isSlice : Bool) {lo lo' hi hi' : Option Value} (hlo : RO ι lo lo') (hhi : RO ι hi hi') {h l : Nat}
    (hh : Wl y len hi = some h) (hl : WN h lo = some l) :
    (Instr.sliceBounds isSlice len cap lo' hi' none).run P w = .ok (l, h, cap) w ∧ l ≤ h := by
  obtain ⟨h1, h2⟩ := lowOf_sound (P := P) (w := w) hlo hl .sliceB
  refine ⟨?_, h1⟩
  cases hhi with
  | none =>
    simp [Wl] at hh
    subst hh
    cases hlo with
    | none => simp at h2; simp [Instr.sliceBounds, h2]
    | some hv => simp at h2; simp [Instr.sliceBounds, h2]
  | some hv =>
    obtain ⟨h3, _⟩ := bnd_sound (P := P) (w := w) hy hv hh (if isSlice then .sliceAcap else .sliceAlen)
    cases hlo with
    | none => simp at h2; simp [Instr.sliceBounds, h2, h3]
    | some hv => simp at h2; simp [Instr.sliceBounds, h2, h3]
theorem bounds3 {len cap y : Nat} (hy : y ≤ cap) {lo lo' : Option Value} {hi hi' mx mx' : Value} (hlo : RO ι lo lo') (hhi : RV ι hi hi') (hmx : RV ι mx mx') {m h l : Nat}
    (hm : bnd y mx = some m) (hh : bnd m hi = some h) (hl : WN h lo = some l) :
    (Instr.sliceBounds true len cap lo' (some hi') (some mx')).run P w = .ok (l, h, m) w ∧ l ≤ h ∧ h ≤ m ∧ m ≤ y := by
  obtain ⟨h1, h2⟩ := lowOf_sound (P := P) (w := w) hlo hl .slice3C
  obtain ⟨h3, h4⟩ := bnd_sound (P := P) (w := w) (Nat.le_refl m) hhi hh .slice3B
  obtain ⟨h5, h6⟩ := bnd_sound (P := P) (w := w) hy hmx hm .slice3Acap
  refine ⟨?_, h1, h4, h6⟩
  cases hlo with
  | none => simp at h2; simp [Instr.sliceBounds, h2, h3, h5]
  | some hv => simp at h2; simp [Instr.sliceBounds, h2, h3, h5]
theorem Rel.rowSz (r : Rel P B ι H w) {b : Nat} {L : Loc} (hb : ι b = some L) {e : TypeId} (h : Qy e (H.f b) = true) : L.sz = P.cellsOf e := by
  have hk := r.blk b L hb
  cases hq : H.f b with
  | cells xs e' rw =>
    rw [hq] at hk h
    cases rw with
    | false => simp [Qy] at h
    | true =>
      simp [Qy] at h
      subst h
      obtain ⟨_, _, _, _, _, _, _, h5⟩ := hk
      exact (h5 rfl).2.2.1
  | _ => rw [hq] at h; simp [Qy] at h
theorem slS_sound (r : Rel P B ι H w) {t e : TypeId} (hu : P.underlying t = some (.slice e)) {sz : Nat} (hz : V2 P e = some sz) {x x' v : Value} {lo lo' hi hi' mx mx' : Option Value}
    (hx : RV ι x x') (hlo : RO ι lo lo') (hhi : RO ι hi hi') (hmx : RO ι mx mx') (h : slS e sz x lo hi mx H = some v) :
    ∃ v', (Instr.sliceAt t x' lo' hi' mx').run P w = .ok v' w ∧ RV ι v v' := by
  have hs := Ut hz w
  unfold slS at h
  split at h
  · rename_i b o len code
    simp only at h
    cases hmx with
    | some hm =>
      cases hhi with
      | none => simp at h
      | some hh =>
        simp only [Option.bind_eq_some_iff, Option.map_eq_some_iff] at h
        obtain ⟨m, hm', n, hn', l, hl', rfl⟩ := h
        cases hx with
        | sle hb hc =>
          rename_i c L
          obtain ⟨k1, k2, k3, k4⟩ := bounds3 (P := P) (w := w) (len := len) (show 2 * c / 2 ≤ c by omega) hlo hh hm hm' hn' hl'
          refine ⟨.slice (some ⟨L.cb, L.base + (if m = l then o else o + l * sz), none⟩) (n - l) (m - l), ?_, .sle hb (by omega)⟩
          by_cases hml : m = l
          · subst hml; simp [Instr.sliceAt, Instr.slice, run_under hu, k1, hs]
          · simp [Instr.sliceAt, Instr.slice, run_under hu, k1, hs, hml, Nat.add_assoc]
        | sli hb hc hn ht =>
          rename_i c cc L
          obtain ⟨k1, k2, k3, k4⟩ := bounds3 (P := P) (w := w) (len := len) (show (2 * c + 1) / 2 ≤ cc by omega) hlo hh hm hm' hn' hl'
          refine ⟨.slice (some ⟨L.cb, L.base + (if m = l then o else o + l * sz), none⟩) (n - l) (m - l), ?_, .sle hb (by omega)⟩
          by_cases hml : m = l
          · subst hml; simp [Instr.sliceAt, Instr.slice, run_under hu, k1, hs]
          · simp [Instr.sliceAt, Instr.slice, run_under hu, k1, hs, hml, Nat.add_assoc]
        | sl0 hk =>
          rename_i a'
          obtain ⟨k1, k2, k3, k4⟩ := bounds3 (P := P) (w := w) (len := 0) (show code / 2 ≤ 0 by omega) hlo hh hm hm' hn' hl'
          have e1 : m = 0 := by omega
          have e2 : l = 0 := by omega
          have e3 : n = 0 := by omega
          subst e1; subst e2; subst e3
          exact ⟨.slice (some a') 0 0, by simp [Instr.sliceAt, Instr.slice, run_under hu, k1, hs], .sl0 (by omega)⟩
    | none =>
      have h' : ((Wl (code / 2) len hi).bind fun h => (WN h lo).bind fun l =>
          if h ≤ code / 2 then (if code % 2 = 0 then some (Value.slice (some ⟨b, if code / 2 = l then o else o + l * sz, none⟩) (h - l) (2 * (code / 2 - l)))
          else if Qy e (H.f b) then some (.slice (some ⟨b, o + l * sz, none⟩) (h - l) (2 * (code / 2 - l) + 1)) else none) else none) = some v := by
        cases hi <;> exact h
      clear h
      simp only [Option.bind_eq_some_iff] at h'
      obtain ⟨n, hn', l, hl', h⟩ := h'
      split at h
      · rename_i hnc
        cases hx with
        | sle hb hc =>
          rename_i c L
          obtain ⟨k1, k2⟩ := bounds2 (P := P) (w := w) (len := len) (show 2 * c / 2 ≤ c by omega) true hlo hhi hn' hl'
          have e2 : 2 * c / 2 = c := by omega
          have e3 : 2 * c % 2 = 0 := by omega
          simp only [e2, e3, if_true] at h hnc
          simp at h
          subst h
          refine ⟨.slice (some ⟨L.cb, L.base + (if c = l then o else o + l * sz), none⟩) (n - l) (c - l), ?_, .sle hb (by omega)⟩
          by_cases hml : c = l
          · subst hml; simp [Instr.sliceAt, Instr.slice, run_under hu, k1, hs]
          · simp [Instr.sliceAt, Instr.slice, run_under hu, k1, hs, hml, Nat.add_assoc]
        | sli hb hc hn ht =>
          rename_i c cc L
          obtain ⟨k1, k2⟩ := bounds2 (P := P) (w := w) (len := len) (show (2 * c + 1) / 2 ≤ cc by omega) true hlo hhi hn' hl'
          have e2 : (2 * c + 1) / 2 = c := by omega
          have e3 : ¬ ((2 * c + 1) % 2 = 0) := by omega
          simp only [e2, e3, if_false] at h hnc
          split at h
          · rename_i hrow
            simp at h
            subst h
            have hsz : L.sz = sz := by rw [r.rowSz hb hrow, sizeQ_cells hz]
            by_cases hml : cc = l
            · refine ⟨.slice (some ⟨L.cb, L.base + o, none⟩) (n - l) (cc - l), by subst hml; simp [Instr.sliceAt, Instr.slice, run_under hu, k1, hs], ?_⟩
              have e4 : n - l = 0 := by omega
              have e5 : cc - l = 0 := by omega
              have e6 : c - l = 0 := by omega
              rw [e4, e5, e6]
              exact .sl0 (by omega)
            · refine ⟨.slice (some ⟨L.cb, L.base + (o + l * sz), none⟩) (n - l) (cc - l), by simp [Instr.sliceAt, Instr.slice, run_under hu, k1, hs, hml, Nat.add_assoc], .sli hb (by omega) (by omega) ?_⟩
              have hle : l ≤ cc := by omega
              rw [hsz] at ht ⊢
              obtain ⟨d, rfl⟩ := Nat.exists_eq_add_of_le hle
              rw [show l + d - l = d by omega]
              rw [Nat.add_mul] at ht
              omega
          · simp at h
        | sl0 hk =>
          rename_i a'
          have e2 : code / 2 = 0 := by omega
          obtain ⟨k1, k2⟩ := bounds2 (P := P) (w := w) (len := 0) (show code / 2 ≤ 0 by omega) true hlo hhi hn' hl'
          have e3 : n = 0 := by omega
          have e4 : l = 0 := by omega
          subst e3; subst e4
          refine ⟨.slice (some a') 0 0, by simp [Instr.sliceAt, Instr.slice, run_under hu, k1, hs], ?_⟩
          simp only [e2] at h
          split at h
          · simp at h; subst h; exact .sl0 (by omega)
          · split at h
            · simp at h; subst h; exact .sl0 (by omega)
            · simp at h
      · simp at h
  · cases hx
    cases hmx with
    | some hm =>
      cases hhi with
      | none => simp at h
      | some hh =>
        simp only [Option.bind_eq_some_iff, Option.map_eq_some_iff] at h
        obtain ⟨m, hm', n, hn', l, hl', rfl⟩ := h
        obtain ⟨k1, k2, k3, k4⟩ := bounds3 (P := P) (w := w) (len := 0) (Nat.le_refl 0) hlo hh hm hm' hn' hl'
        have e1 : m = 0 := by omega
        have e2 : l = 0 := by omega
        have e3 : n = 0 := by omega
        subst e1; subst e2; subst e3
        exact ⟨.slice none 0 0, by simp [Instr.sliceAt, Instr.slice, run_under hu, k1, hs], .nils⟩
    | none =>
      have h' : ((Wl 0 0 hi).bind fun h => (WN h lo).map fun _ => Value.slice none 0 0) = some v := by
        cases hi <;> exact h
      simp only [Option.bind_eq_some_iff, Option.map_eq_some_iff] at h'
      obtain ⟨n, hn', l, hl', rfl⟩ := h'
      obtain ⟨k1, k2⟩ := bounds2 (P := P) (w := w) (len := 0) (cap := 0) (Nat.le_refl 0) true hlo hhi hn' hl'
      have e3 : n = 0 := by
        cases hi with
        | none => simpa [Wl] using hn'.symm
        | some hv =>
          have hn2 : bnd 0 hv = some n := hn'
          unfold bnd at hn2
          split at hn2
          · split at hn2
            · simp at hn2; omega
            · simp at hn2
          · simp at hn2
      have e4 : l = 0 := by omega
      subst e3; subst e4
      exact ⟨.slice none 0 0, by simp [Instr.sliceAt, Instr.slice, run_under hu, k1, hs], .nils⟩
  · simp at h
theorem slA_sound {t e : TypeId} {n : Nat} (hu : P.underlying t = some (.array n e)) {sz : Nat} (hz : V2 P e = some sz) {x x' v : Value} {lo lo' hi hi' : Option Value}
    (hx : RV ι x x') (hlo : RO ι lo lo') (hhi : RO ι hi hi') (h : slA n sz x lo hi = some v) : ∃ v', (Instr.sliceAt t x' lo' hi' none).run P w = .ok v' w ∧ RV ι v v' := by
  have hs := Ut hz w
  unfold slA at h
  split at h
  · rename_i b o
    cases hx with
    | ptr hb =>
      rename_i L
      simp only [Option.bind_eq_some_iff, Option.map_eq_some_iff] at h
      obtain ⟨k, hk, l, hl, rfl⟩ := h
      have hkn : k ≤ n := by
        cases hi with
        | none => simp [Wl] at hk; omega
        | some hv =>
          have hk2 : bnd n hv = some k := hk
          unfold bnd at hk2
          split at hk2
          · split at hk2
            · simp at hk2; omega
            · simp at hk2
          · simp at hk2
      obtain ⟨k1, k2⟩ := bounds2 (P := P) (w := w) (len := n) (Nat.le_refl n) false hlo hhi hk hl
      refine ⟨.slice (some ⟨L.cb, L.base + (if n = l then o else o + l * sz), none⟩) (k - l) (n - l), ?_, .sle hb (by omega)⟩
      by_cases hml : n = l
      · subst hml; simp [Instr.sliceAt, Instr.sureAddr, run_under hu, k1, hs]
      · simp [Instr.sliceAt, Instr.sureAddr, run_under hu, k1, hs, hml, Nat.add_assoc]
  · simp at h
theorem extract_mk (s : ByteArray) (l h : Nat) : s.extract l h = mk (((bl s).take h).drop l) := by
  apply bl_inj
  simp [bl, mk, ByteArray.data_extract, List.drop_take]
theorem slT_sound {t : TypeId} (hu : P.underlying t = some .string) {x x' v : Value} {lo lo' hi hi' : Option Value}
    (hx : RV ι x x') (hlo : RO ι lo lo') (hhi : RO ι hi hi') (h : slT x lo hi = some v) : ∃ v', (Instr.sliceAt t x' lo' hi' none).run P w = .ok v' w ∧ RV ι v v' := by
  unfold slT at h
  split at h
  · rename_i s
    cases hx
    simp only [Option.bind_eq_some_iff, Option.map_eq_some_iff] at h
    obtain ⟨k, hk, l, hl, rfl⟩ := h
    rw [Qd] at hk
    obtain ⟨k1, k2⟩ := bounds2 (P := P) (w := w) (len := s.size) (Nat.le_refl s.size) false hlo hhi hk hl
    refine ⟨.string (s.extract l k), ?_, by rw [extract_mk]; exact .str _⟩
    simp [Instr.sliceAt, Instr.slice, run_under hu, k1]
  · simp at h
theorem xslice_sound (r : Rel P B ι H w) {t : TypeId} {x x' v : Value} {lo lo' hi hi' mx mx' : Option Value}
    (hx : RV ι x x') (hlo : RO ι lo lo') (hhi : RO ι hi hi') (hmx : RO ι mx mx') (h : X3 P t x lo hi mx H = some v) :
    ∃ v', (Instr.sliceAt t x' lo' hi' mx').run P w = .ok v' w ∧ RV ι v v' := by
  unfold X3 at h
  split at h
  · rename_i e hu
    simp only [Option.bind_eq_some_iff] at h
    obtain ⟨sz, hz, h⟩ := h
    exact slS_sound r hu hz hx hlo hhi hmx h
  · rename_i n e hu
    simp only [Option.bind_eq_some_iff] at h
    obtain ⟨sz, hz, h⟩ := h
    cases hmx with
    | none => exact slA_sound hu hz hx hlo hhi h
    | some => simp at h
  · rename_i hu
    cases hmx with
    | none => exact slT_sound hu hx hlo hhi h
    | some => simp at h
  · simp at h
end Go.Proofs.YtmiinbhnfojnbaaDoor.Eng

namespace Go.Proofs.YtmiinbhnfojnbaaDoor.Eng
open Go
variable {P : Program} {B : Nat} {ι : Emb} {H : AHeap} {w : World}
theorem QH (z : List Value) : ∀ n, (zeros z n).length = n * z.length
  | 0 => by simp [zeros]
  | n + 1 => by simp [zeros, QH z n, Nat.add_mul]; omega
theorem zeros_get (z : List Value) (hz : 0 < z.length) : ∀ n i, i < n * z.length → (zeros z n)[i]? = z[i % z.length]?
  | 0, i, h => by simp at h
  | n + 1, i, h => by
    simp only [zeros]
    by_cases hi : i < z.length
    · rw [List.getElem?_append_left hi, Nat.mod_eq_of_lt hi]
    · rw [List.getElem?_append_right (by omega), zeros_get z hz n (i - z.length) (by rw [Nat.add_mul] at h; omega), ← Nat.mod_eq_sub_mod (show i ≥ z.length by omega)]
theorem range_zeros (z : Array Value) (hz : 0 < z.size) (n : Nat) : (Array.range (n * z.size)).map (fun i => z[i % z.size]!) = (zeros z.toList n).toArray := by
  apply Array.ext
  · simp [QH]
  · intro i h1 h2
    have hi : i < n * z.size := by simpa using h1
    have hm : i % z.size < z.size := Nat.mod_lt _ hz
    have hg := zeros_get z.toList (by simpa using hz) n i (by simpa using hi)
    have : (zeros z.toList n)[i]? = some z[i % z.size] := by rw [hg]; simp [hm]
    rw [List.getElem?_eq_some_iff] at this
    obtain ⟨h3, h4⟩ := this
    simp [h4, hm]
theorem Ge (z : Array Value) (hz : 0 < z.size) (n : Nat) : Builtin.zeroCells z n = (zeros z.toList n).toArray := range_zeros z hz n
theorem ZH {l l' : List Value} (h : RVs ι l l') : ∀ n, RVs ι (zeros l n) (zeros l' n)
  | 0 => .nil
  | n + 1 => h.append (ZH h n)
theorem gr_cells {z : Value} (h : gr 9 z = true) : RVs ι z.cells.toList z.cells.toList := by
  have hr : RV ι z z := Wc h
  cases z with
  | agg cs => cases hr with | agg h1 h2 => exact RVs.of_arr h1 h2
  | _ => exact .cons hr .nil
theorem ZI {e : TypeId} {z : List Value} (h : zrow P e = some z) :
    ∃ i zv, P.info? e = some i ∧ i.zero = some zv ∧ gr 9 zv = true ∧ zv.cells.toList = z ∧ z.length = i.size ∧ 0 < z.length := by
  unfold zrow at h
  split at h
  · rename_i i hi
    split at h
    · rename_i zv hz
      split at h
      · rename_i hg
        simp only [Bool.and_eq_true, beq_iff_eq, decide_eq_true_eq] at hg
        simp at h
        subst h
        exact ⟨i, zv, hi, hz, hg.1.1, rfl, by simpa using hg.1.2, by simp; omega⟩
      · simp at h
    · simp at h
  · simp at h
def RA (ι : Emb) (x x' : Array Value) : Prop := x.size = x'.size ∧ ∀ (i : Nat) (v v' : Value), x[i]? = some v → x'[i]? = some v' → RV ι v v'
theorem RA.set {x x' : Array Value} (h : RA ι x x') {v v' : Value} (hv : RV ι v v') (i : Nat) : RA ι (x.setIfInBounds i v) (x'.setIfInBounds i v') := by
  refine ⟨by simpa using h.1, fun j a b ha hb => ?_⟩
  by_cases hj : i = j
  · subst hj
    have hlt : i < x.size := by
      have := (Array.getElem?_eq_some_iff.1 ha).1
      simpa using this
    rw [Array.getElem?_setIfInBounds_self_of_lt hlt] at ha
    rw [Array.getElem?_setIfInBounds_self_of_lt (by have := h.1; omega)] at hb
    cases ha
    cases hb
    exact hv
  · rw [Array.getElem?_setIfInBounds_ne hj] at ha hb
    exact h.2 j a b ha hb
theorem RA.put {l l' : List Value} (hl : RVs ι l l') : ∀ (off k : Nat) {x x' : Array Value}, RA ι x x' →
    RA ι ((l.zipIdx k).foldl (fun cs (p : Value × Nat) => cs.setIfInBounds (off + p.2) p.1) x) ((l'.zipIdx k).foldl (fun cs (p : Value × Nat) => cs.setIfInBounds (off + p.2) p.1) x') := by
  induction hl with
  | nil => intro off k x x' h; simpa using h
  | cons hv _ ih => intro off k x x' h; simpa [List.zipIdx_cons] using ih off (k + 1) (h.set hv (off + k))
inductive RP (ι : Emb) : List (Nat × Value) → List (Nat × Value) → Prop
  | nil : RP ι [] []
  | cons {i : Nat} {v v' : Value} {l l' : List (Nat × Value)} (h : RV ι v v') (t : RP ι l l') : RP ι ((i, v) :: l) ((i, v') :: l')
theorem fill_sound (place : Nat → Option (Nat × Nat)) {parts parts' : List (Nat × Value)} (hp : RP ι parts parts') : ∀ {x x' out : Array Value}, RA ι x x' → fillX place x parts = some out →
    ∃ out', Instr.fill place x' parts' = some out' ∧ RA ι out out' := by
  induction hp with
  | nil => intro x x' out h ho; simp [fillX] at ho; subst ho; exact ⟨x', rfl, h⟩
  | @cons i v v' l l' hv _ ih =>
    intro x x' out h ho
    simp only [fillX] at ho
    split at ho
    · rename_i off size l1 hpl hf
      have hl := flat_sound hv hf
      have hlen := hl.length
      split at ho
      · simp at ho
      · rename_i hc
        obtain ⟨out', h1, h2⟩ := ih (RA.put hl off 0 h) ho
        refine ⟨out', ?_, h2⟩
        have hs : v'.cells.size = l1.length := by simpa using hlen.symm
        have hx := h.1
        simp only [Bool.or_eq_true, bne_iff_ne, ne_eq, decide_eq_true_eq] at hc
        simp only [Instr.fill, hpl, hs, ← hx]
        rw [if_neg (by simpa using hc)]
        have hz : (v'.cells.zipIdx.foldl (fun cs (p : Value × Nat) => cs.setIfInBounds (off + p.2) p.1) x') = (v'.cells.toList.zipIdx.foldl (fun cs (p : Value × Nat) => cs.setIfInBounds (off + p.2) p.1) x') := by
          rw [← Array.foldl_toList]
          simp
        show Instr.fill place (v'.cells.zipIdx.foldl (fun cs (p : Value × Nat) => cs.setIfInBounds (off + p.2) p.1) x') l' = some out'
        rw [hz]
        exact h1
    · simp at ho
theorem places_run : ∀ {fs : List Field} {pl : List (Nat × Nat)}, places P fs = some pl → (fs.mapM fun f => (do pure (f.offset, ← sizeOf f.type) : Sem (Nat × Nat))).run P w = .ok pl w
  | [], pl, h => by simp [places] at h; subst h; rfl
  | f :: fs, pl, h => by
    simp only [places] at h
    split at h
    · rename_i i hi
      simp only [Option.map_eq_some_iff] at h
      obtain ⟨l, hl, rfl⟩ := h
      have := places_run hl
      have hsz : (sizeOf f.type).run P w = .ok i.size w := by simp [sizeOf, typeInfo, hi]
      simp only [List.mapM_cons, Sem.run_bind, hsz, Result.andThen_ok, Sem.run_pure, this]
    · simp at h
theorem xbuild_sound {t : TypeId} {parts parts' : List (Nat × Value)} (hp : RP ι parts parts') {v : Value} (h : xbuild P t parts = some v) :
    ∃ v', (Instr.build t parts'.toArray).run P w = .ok v' w ∧ RV ι v v' := by
  unfold xbuild at h
  split at h
  · rename_i z fs hz hu
    obtain ⟨i, hi, hz', hg⟩ := Qo hz
    have hra : RA ι z z := by cases (Wc hg : RV ι (.agg z) (.agg z)) with | agg h1 h2 => exact ⟨h1, h2⟩
    simp only [Option.bind_eq_some_iff] at h
    obtain ⟨pl, hpl, h⟩ := h
    simp only [Ui, Option.map_eq_some_iff] at h
    obtain ⟨out, ho, rfl⟩ := h
    obtain ⟨out', h1, h2⟩ := fill_sound (pl[·]?) hp hra ho
    refine ⟨.agg out', ?_, .agg h2.1 h2.2⟩
    have hm : (fs.mapM fun f => (do pure (f.offset, ← sizeOf f.type) : Sem (Nat × Nat))).run P w = .ok pl.toArray w := by
      rw [Array.mapM_eq_mapM_toList]
      simp only [Sem.run_map, places_run hpl, Result.andThen_ok]
    have he : (fun x : Nat => pl.toArray[x]?) = (fun x : Nat => pl[x]?) := by funext x; simp
    simp only [Instr.build, zeroValue, typeInfo, Sem.run_bind, run_program, Result.andThen_ok, hi, Sem.run_pure, hz', run_under hu, hm, he, Value.cells, h1]
  · rename_i z n e hz hu
    obtain ⟨i, hi, hz', hg⟩ := Qo hz
    have hra : RA ι z z := by cases (Wc hg : RV ι (.agg z) (.agg z)) with | agg h1 h2 => exact ⟨h1, h2⟩
    simp only [Option.bind_eq_some_iff] at h
    obtain ⟨sz, hsz, h⟩ := h
    simp only [bldA, Option.map_eq_some_iff] at h
    obtain ⟨out, ho, rfl⟩ := h
    obtain ⟨out', h1, h2⟩ := fill_sound _ hp hra ho
    refine ⟨.agg out', ?_, .agg h2.1 h2.2⟩
    simp only [Instr.build, zeroValue, typeInfo, Sem.run_bind, run_program, Result.andThen_ok, hi, Sem.run_pure, hz', run_under hu, Ut hsz, Value.cells, h1]
  · simp at h
theorem Rel.newSlice (r : Rel P B ι H w) {e : TypeId} {l l' : List Value} (hl : RVs ι l l') {n c : Nat} (hn : n ≤ c) {x : Result Value}
    (hx : x = .ok (.slice (some ⟨w.heap.size, 0, none⟩) n c) (w.alloc (.cells l'.toArray e))) : XR P B ι H w (.slice (some ⟨H.n, 0, none⟩) n (2 * c)) (H.push (.cells l e true)) x := by
  have hb := RB.fresh (rest := []) r hl e
  simp only [List.append_nil] at hb
  obtain ⟨r', s'⟩ := r.push _ _ ⟨w.heap.size, 0, P.cellsOf e, l'.length⟩ rfl hb
  exact ⟨_, _, _, hx, .sle (b := H.n) (o := 0) (L := ⟨w.heap.size, 0, P.cellsOf e, l'.length⟩) (by simp [up]) hn, r', s'⟩
theorem xbuildSlice_sound (r : Rel P B ι H w) {t : TypeId} {len : Nat} {parts parts' : List (Nat × Value)} (hp : RP ι parts parts') {v : Value} {H' : AHeap} (h : WT P t len parts H = some (v, H')) :
    XR P B ι H w v H' ((Instr.buildSlice t len parts'.toArray).run P w) := by
  unfold WT at h
  split at h
  · rename_i e hu
    simp only [Option.bind_eq_some_iff] at h
    obtain ⟨z, hz, h⟩ := h
    obtain ⟨i, zv, hi, hz', hg, hzl, hsz, hpos⟩ := ZI hz
    split at h
    · rename_i hle
      simp only [UC, Option.map_eq_some_iff] at h
      obtain ⟨out, ho, h⟩ := h
      cases h
      have hcell : RVs ι z z := by rw [← hzl]; exact gr_cells hg
      have hra : RA ι (zeros z len).toArray (zeros z len).toArray := ⟨rfl, (ZH hcell len).toArr⟩
      obtain ⟨out', h1, h2⟩ := fill_sound _ hp hra ho
      refine r.newSlice (l' := out'.toList) (RVs.of_arr h2.1 h2.2) (Nat.le_refl _) ?_
      have hsize : zv.cells.size = i.size := by rw [← hsz, ← hzl]; simp
      have hpos' : 0 < zv.cells.size := by rw [hsize, ← hsz]; exact hpos
      have hmap : (Array.range (len * i.size)).map (fun j => zv.cells[j % zv.cells.size]!) = (zeros z len).toArray := by
        rw [← hsize, range_zeros _ hpos', hzl]
      have hfill : Instr.fill (fun j => some (j * i.size, i.size)) (zeros z len).toArray parts' = some out' := by rw [← hsz]; exact h1
      have hle' : ¬ (16777216 < len * i.size) := by rw [← hsz]; simpa using hle
      unfold Instr.buildSlice
      simp only [Sem.run_bind, run_under hu, Result.andThen_ok, sizeOf, typeInfo, run_program, hi, Sem.run_pure]
      by_cases h0 : len * i.size = 0
      · have hl0 : len = 0 := by
          rcases Nat.mul_eq_zero.1 h0 with h | h
          · exact h
          · omega
        subst hl0
        simp [zeros] at hfill
        have hr0 : Array.range 0 = #[] := rfl
        simp [hfill, newRow, hr0]
      · simp [hle', h0, zeroValue, typeInfo, hi, hz', hmap, hfill, newRow]
    · simp at h
  · simp at h
theorem wrap_id {n : Int} (h0 : -9223372036854775808 ≤ n) (h1 : n ≤ 9223372036854775807) : IntKind.i64.wrap n = n := by
  unfold IntKind.wrap
  simp [IntKind.bits, IntKind.signed]
  split <;> omega
theorem xmakeSlice_sound (r : Rel P B ι H w) {t : TypeId} {l c l' c' : Value} (hl : RV ι l l') (hc : RV ι c c') {v : Value} {H' : AHeap} (h : Vp P t l c H = some (v, H')) :
    XR P B ι H w v H' ((Instr.makeSlice t l' c').run P w) := by
  unfold Vp at h
  split at h
  · rename_i e hu
    simp only [Option.bind_eq_some_iff] at h
    obtain ⟨z, hz, h⟩ := h
    obtain ⟨i, zv, hi, hz', hg, hzl, hsz, hpos⟩ := ZI hz
    unfold mkS at h
    split at h
    · rename_i kl nl kc nc
      cases hl
      cases hc
      split at h
      · rename_i hb
        obtain ⟨b1, b2, b3, b4⟩ := hb
        simp at h
        obtain ⟨rfl, rfl⟩ := h
        have hcell : RVs ι z z := by rw [← hzl]; exact gr_cells hg
        refine r.newSlice (l' := zeros z nc.toNat) (ZH hcell _) (by omega) ?_
        have hbytes : P.bytesOf e = i.bytes := by simp [Program.bytesOf, hi]
        have w1 : IntKind.i64.wrap nl = nl := wrap_id (by omega) (by omega)
        have w2 : IntKind.i64.wrap nc = nc := wrap_id (by omega) (by omega)
        have hsize : zv.cells.size = i.size := by rw [← hsz, ← hzl]; simp
        have hpos' : 0 < zv.cells.size := by rw [hsize, ← hsz]; exact hpos
        have hmap : (Array.range (nc.toNat * i.size)).map (fun j => zv.cells[j % zv.cells.size]!) = (zeros z nc.toNat).toArray := by
          rw [← hsize, range_zeros _ hpos', hzl]
        have t1 : ¬ (nc < 0) := by omega
        have t2 : ¬ ((i.bytes : Int) * nc > 281474976710656) := by rw [Int.mul_comm, ← hbytes]; omega
        have t3 : ¬ (nl < 0) := by omega
        have t4 : ¬ (nl > nc) := by omega
        unfold Instr.makeSlice
        simp only [Sem.run_bind, run_under hu, Result.andThen_ok, typeInfo, run_program, hi, Sem.run_pure, asInt, asIntOf, w1, w2]
        by_cases h0 : nc.toNat * i.size = 0
        · have hl0 : nc.toNat = 0 := by
            rcases Nat.mul_eq_zero.1 h0 with h | h
            · exact h
            · omega
          have hnc : nc = 0 := by omega
          subst hnc
          have hr0 : Array.range 0 = #[] := rfl
          simp [t3, t4, sizeOf, typeInfo, hi, zeros, newRow, hr0]
        · simp [t1, t2, t3, t4, sizeOf, zeroValue, typeInfo, hi, hz', h0, hmap, newRow]
      · simp at h
    · simp at h
  · simp at h
theorem bytes_rel (l : List UInt8) : RVs ι (l.map Xc) (l.map Xc) := by
  induction l with
  | nil => exact .nil
  | cons b l ih => exact .cons (.int _ _) ih
theorem bytesOf_sound : ∀ {l l' : List Value} {s : List UInt8}, RVs ι l l' → bytesOf l = some s → ∃ ns : List Int, l' = ns.map (Value.int .u8) ∧ s = ns.map fun n => UInt8.ofNat n.toNat
  | _, _, s, .nil, h => ⟨[], rfl, by simpa [bytesOf] using h.symm⟩
  | _, _, s, .cons hv hl, h => by
    cases hv with
    | int k n =>
      cases k with
      | u8 =>
        simp only [bytesOf, Option.map_eq_some_iff] at h
        obtain ⟨s', hs', rfl⟩ := h
        obtain ⟨ns, rfl, rfl⟩ := bytesOf_sound hl hs'
        exact ⟨n :: ns, rfl, rfl⟩
      | _ => simp [bytesOf] at h
    | _ => simp [bytesOf] at h
theorem foldl_push (ns : List Int) : ∀ (r : ByteArray), ns.foldl (fun r n => r.push (UInt8.ofNat n.toNat)) r = ⟨r.data ++ (ns.map fun n => UInt8.ofNat n.toNat).toArray⟩ := by
  induction ns with
  | nil => intro r; cases r; simp
  | cons n ns ih =>
    intro r
    rw [List.foldl_cons, ih]
    cases r
    congr 1
    apply Array.ext'
    simp [ByteArray.push]
theorem grown_le (w : World) (need old : Nat) (e : TypeId) : need ≤ grownCap w need old e := by
  simp [grownCap, Question.cut]
theorem xconv_sound (r : Rel P B ι H w) {src dst : TypeId} {x x' v : Value} {H' : AHeap} (hx : RV ι x x') (h : YP P src dst x H = some (v, H')) :
    XR P B ι H w v H' ((convert src dst x').run P w) := by
  unfold YP at h
  split at h
  · rename_i u e s hs hd
    cases hx
    split at h
    · rename_i he
      split at h
      · rename_i h1
        simp at h
        obtain ⟨rfl, rfl⟩ := h
        have hrun := Lib.run_convert_string_bytes w src dst e s hs hd he
        have hcells : (Lib.bytesCells w e s) = ((bl s).map Xc ++ List.replicate (grownCap w s.size 0 e - s.size) (Value.int .u8 0)).toArray := by
          apply Array.ext'
          simp [Lib.bytesCells, bl, Xc]
        have hge := grown_le w s.size 0 e
        have hsize : (Lib.bytesCells w e s).size = grownCap w s.size 0 e := by
          rw [hcells]
          simp [Qd]
          omega
        have hk : RB P B ι (Lib.bytesWorld w e s) ⟨w.heap.size, 0, P.cellsOf e, grownCap w s.size 0 e⟩ (.cells ((bl s).map Xc) e true) := by
          refine ⟨Lib.bytesCells w e s, e, _, Lib.bytesWorld_at_new w e s, hsize, by rw [hsize]; simp [Qd]; omega, fun i v hv => ?_, fun _ => ⟨r.base, rfl, rfl, fun j hj => by have ht : tailQ P e = 0 := (by unfold tailQ; rw [he]); simp; omega⟩⟩
          obtain ⟨v', hv', hr⟩ := (bytes_rel (ι := ι) (bl s)).get hv
          refine ⟨v', ?_, hr⟩
          have hlt : i < ((bl s).map Xc).length := (List.getElem?_eq_some_iff.1 hv').1
          rw [hcells]
          simp only [Nat.zero_add, List.getElem?_toArray]
          rw [List.getElem?_append_left hlt]
          exact hv'
        obtain ⟨r', s'⟩ := r.pushW _ _ rfl (Lib.bytesWorld_size w e s) hk (fun c hc => Lib.bytesWorld_at_old w e s c hc) rfl rfl rfl
        refine ⟨_, _, _, hrun, ?_, r', s'⟩
        rw [Qd]
        exact .sli (b := H.n) (o := 0) (L := ⟨w.heap.size, 0, P.cellsOf e, grownCap w s.size 0 e⟩) (by simp [up]) hge hge (by simp [h1])
      · simp at h
    · simp at h
  · rename_i e b o n code hs hd
    split at h
    · rename_i he
      split at h
      · rename_i hn
        subst hn
        simp at h
        obtain ⟨rfl, rfl⟩ := h
        have key : ∀ (a : Addr) (c : Nat), x' = .slice (some a) 0 c → XR P B ι H w (.string .empty) H ((convert src dst x').run P w) := by
          intro a c e1
          subst e1
          refine XR.still r (.str _) ?_
          rw [run_convert_bytes_string w src dst e (some a) 0 c hs he hd]
          have := run_bytesToString (P := P) w a 0 c [] (by simp [loadCells, loadCellsFrom])
          simpa using this
        cases hx with
        | sle hb hc => exact key _ _ rfl
        | sli hb hc hn ht => exact key _ _ rfl
        | sl0 hk => exact key _ _ rfl
      · rename_i hn
        simp only [Option.bind_eq_some_iff, Option.map_eq_some_iff] at h
        obtain ⟨l, hl, s, hs', h⟩ := h
        cases h
        have key : ∀ (L : Loc) (c : Nat), ι b = some L → x' = .slice (some ⟨L.cb, L.base + o, none⟩) n c → XR P B ι H w (.string (mk s)) H ((convert src dst x').run P w) := by
          intro L c hb e1
          subst e1
          obtain ⟨l', h1, h2, h3⟩ := r.loadCells hb hl
          obtain ⟨ns, rfl, rfl⟩ := bytesOf_sound h1 hs'
          refine XR.still r (.str _) ?_
          rw [run_convert_bytes_string w src dst e _ n c hs he hd, run_bytesToString (P := P) w _ n c ns h3, foldl_push]
          simp [mk]
        cases hx with
        | sle hb hc => exact key _ _ hb rfl
        | sli hb hc hn ht => exact key _ _ hb rfl
        | sl0 hk => omega
    · simp at h
  · split at h
    · rename_i hg
      simp only [Option.map_eq_some_iff] at h
      obtain ⟨u, hu, h⟩ := h
      cases h
      obtain ⟨h1, h2⟩ := Qb hu
      rw [gr_eq hg hx]
      exact XR.still r (Wc h2) (pv_run h1)
    · simp at h
structure SrcR (P : Program) (e : TypeId) (tx : TypeId) (x : Value) (n : Nat) (news : List Value) (w : World) : Prop where
  len : news.length = n * P.cellsOf e
  how : (((∃ e', P.underlying tx = some (.slice e')) ∨ P.underlying tx = some .string) ∧ (∀ w', (Builtin.lenOf x).run P w' = .ok n w') ∧
      (∀ w' : World, w'.heap = w.heap → (Builtin.firstCells (P.cellsOf e) n x).run P w' = .ok news.toArray w')) ∨
    (∃ k, P.underlying tx = some (.int k) ∧ x = .int .i64 n ∧ n * P.bytesOf e ≤ 140737488355328 ∧ n ≤ 140737488355328 ∧ ∃ i z, P.info? e = some i ∧ i.zero = some z ∧ 0 < z.cells.size ∧ z.cells.size = i.size ∧ news = zeros z.cells.toList n)
theorem loadCells_heap {a : Addr} {l : List Value} {w w' : World} (h : w'.heap = w.heap) (hc : ∀ j v, l[j]? = some v → w.cell? (a.add j) = some v) : (loadCells a l.length).run P w' = .ok l.toArray w' :=
  run_loadCells_list (P := P) w' a l fun j v hv => by
    have := hc j v hv
    simpa [World.cell?, h] using this
theorem srcOf_sound (r : Rel P B ι H w) {e tx : TypeId} {z : List Value} (hz : zrow P e = some z) {x x' : Value} (hx : RV ι x x') {n : Nat} {new : List Value} (h : srcOf P e z tx x H = some (n, new)) :
    ∃ new', RVs ι new new' ∧ SrcR P e tx x' n new' w := by
  obtain ⟨i, zv, hi, hz', hg, hzl, hsz, hpos⟩ := ZI hz
  have hcs : P.cellsOf e = z.length := by rw [VK hi, hsz]
  unfold srcOf at h
  split at h
  · rename_i e' hu
    unfold Vn at h
    split at h
    · simp at h
      obtain ⟨rfl, rfl⟩ := h
      cases hx
      exact ⟨[], .nil, by simp, .inl ⟨.inl ⟨e', hu⟩, fun _ => rfl, fun w' _ => by simp [Builtin.firstCells]⟩⟩
    · rename_i b o m code
      split at h
      · rename_i hm
        simp at h
        obtain ⟨rfl, rfl⟩ := h
        have key : ∀ (a : Addr) (c : Nat), x' = .slice (some a) 0 c → ∃ new', RVs ι [] new' ∧ SrcR P e tx x' 0 new' w := by
          intro a c e1
          subst e1
          exact ⟨[], .nil, by simp, .inl ⟨.inl ⟨e', hu⟩, fun _ => rfl, fun w' _ => by simp [Builtin.firstCells, loadCells, loadCellsFrom]⟩⟩
        cases hx with
        | sle hb hc => subst hm; exact key _ _ rfl
        | sli hb hc hn ht => subst hm; exact key _ _ rfl
        | sl0 hk => exact key _ _ rfl
      · rename_i hm
        simp only [Option.map_eq_some_iff] at h
        obtain ⟨l, hl, h⟩ := h
        cases h
        have key : ∀ (L : Loc) (c : Nat), ι b = some L → x' = .slice (some ⟨L.cb, L.base + o, none⟩) n c → ∃ new', RVs ι new new' ∧ SrcR P e tx x' n new' w := by
          intro L c hb e1
          subst e1
          obtain ⟨l', h1, h2, h3⟩ := r.cut hb hl
          refine ⟨l', h1, by rw [h2, hcs], .inl ⟨.inl ⟨e', hu⟩, fun _ => rfl, fun w' hw => ?_⟩⟩
          simp only [Builtin.firstCells]
          rw [hcs, ← h2]
          exact loadCells_heap hw fun j v hv => by rw [add_none]; exact h3 j v hv
        cases hx with
        | sle hb hc => exact key _ _ hb rfl
        | sli hb hc hn ht => exact key _ _ hb rfl
        | sl0 hk => omega
    · simp at h
  · rename_i hu
    split at h
    · rename_i h1
      unfold srcT at h
      split at h
      · rename_i s
        cases hx
        simp at h
        obtain ⟨rfl, rfl⟩ := h
        refine ⟨_, bytes_rel (bl s), by rw [hcs, h1]; simp, .inl ⟨.inr hu, fun _ => by rw [Qd]; rfl, fun w' _ => ?_⟩⟩
        rw [hcs, h1, Qd]
        exact firstCells_string s w'
      · simp at h
    · simp at h
  · rename_i k hu
    unfold srcZ at h
    split at h
    · rename_i m
      cases hx
      split at h
      · rename_i hb
        simp at h
        obtain ⟨rfl, rfl⟩ := h
        have hcell : RVs ι z z := by rw [← hzl]; exact gr_cells hg
        refine ⟨zeros z m.toNat, ZH hcell _, by rw [QH, hcs], .inr ⟨k, hu, by simp; omega, ?_, by omega, i, zv, hi, hz', by rw [← hzl] at hpos; simpa using hpos, by rw [← hsz, ← hzl]; simp, by rw [hzl]⟩⟩
        have : (m.toNat : Int) = m := by omega
        have h2 := hb.2.1
        rw [← this, ← Int.natCast_mul] at h2
        omega
      · simp at h
    · simp at h
  · simp at h
theorem run_append_in {t tx ty e : TypeId} {i : TypeInfo} (ht : P.underlying t = some (.slice e)) (hi : P.info? e = some i) {g off len cap : Nat} {x : Value} {n : Nat} {news : List Value} (hn : n ≠ 0)
    (hs : SrcR P e tx x n news w) (hroom : len + n ≤ cap)
    (hst : (storeCells ⟨g, off + len * P.cellsOf e, none⟩ news).run P w = .ok () (w.setCells g (off + len * P.cellsOf e) news)) :
    (Builtin.append_ #[t, tx] ty #[.slice (some ⟨g, off, none⟩) len cap, x]).run P w = .ok (.slice (some ⟨g, off, none⟩) (len + n) cap) (w.setCells g (off + len * P.cellsOf e) news) := by
  have hsz := VK hi
  rcases hs.how with ⟨hk, hl, hc⟩ | ⟨k, hu, rfl, hb, hmax, i', z, hi', hz, hpos, hzs, rfl⟩
  · have hc' := hc w rfl
    rw [hsz] at hst hc' ⊢
    rcases hk with ⟨e', hk⟩ | hk <;> simp [Builtin.append_, run_underlying ht, run_underlying hk, sizeOf, typeInfo, hi, hl, hroom, hc', hst]
  · rw [hi] at hi'
    cases hi'
    have hbytes : P.bytesOf e = i.bytes := by simp [Program.bytesOf, hi]
    have w1 : IntKind.i64.wrap (n : Int) = n := wrap_id (by omega) (by omega)
    have t1 : ¬ ((n : Int) < 0) := by omega
    have t2 : ¬ ((n : Int) * i.bytes > 281474976710656) := by
      rw [hbytes] at hb
      have : ((n * i.bytes : Nat) : Int) ≤ ((140737488355328 : Nat) : Int) := Int.ofNat_le.2 hb
      rw [Int.natCast_mul] at this
      omega
    have t3 : ¬ (n * i.size = 0) := Nat.mul_ne_zero hn (by omega)
    have hzc := Ge z.cells hpos n
    rw [hsz] at hst ⊢
    simp [Builtin.append_, run_underlying ht, run_underlying hu, sizeOf, typeInfo, zeroValue, hi, hz, asInt, asIntOf, w1, t1, t2, t3, hn, hroom, hzc, hst]
theorem run_append_out {t tx ty e : TypeId} {i : TypeInfo} {z : Value} (ht : P.underlying t = some (.slice e)) (hi : P.info? e = some i) (hz : i.zero = some z) {base : Option Addr} {len cap : Nat} {x : Value} {n : Nat} {news olds : List Value} (hn : n ≠ 0)
    (hs : SrcR P e tx x n news w) (hold : (Builtin.firstCells (P.cellsOf e) len (.slice base len cap)).run P w.drew = .ok olds.toArray w.drew) (hg : cap < len + n) (hmax : len + n ≤ 140737488355328)
    (hfit : (len + n) * P.bytesOf e ≤ 140737488355328) :
    (Builtin.append_ #[t, tx] ty #[.slice base len cap, x]).run P w =
      .ok (.slice (some ⟨w.heap.size, 0, none⟩) (len + n) (grownCap w (len + n) cap e))
        (w.drew.alloc (.cells (olds ++ (news ++ (Builtin.zeroCells z.cells (grownCap w (len + n) cap e - (len + n))).toList)).toArray e)) := by
  have hsz := VK hi
  have hbytes : P.bytesOf e = i.bytes := by simp [Program.bytesOf, hi]
  have hng : ¬ (len + n ≤ cap) := by omega
  have h63 : ¬ (9223372036854775807 < ((len : Int) + (n : Int))) := by omega
  have h48 : ¬ (281474976710656 < Builtin.nextslicecap (len + n) cap * i.bytes) := by
    have := growslice_fits (bytes := i.bytes) hg (by rw [← hbytes]; exact hfit)
    omega
  rcases hs.how with ⟨hk, hl, hc⟩ | ⟨k, hu, rfl, hb, hmax', i', z', hi', hz', hpos, hzs, rfl⟩
  · have hc' := hc w.drew rfl
    rw [hsz] at hc' hold
    rcases hk with ⟨e', hk⟩ | hk <;>
      (simp [Builtin.append_, run_underlying ht, run_underlying hk, sizeOf, typeInfo, zeroValue, hi, hz, hl, hng, h63, h48, Question.forced, hc', hold, newRow, grownCap]
       congr 2
       apply Array.ext'
       simp [List.append_assoc])
  · rw [hi] at hi'
    cases hi'
    rw [hz] at hz'
    cases hz'
    have w1 : IntKind.i64.wrap (n : Int) = n := wrap_id (by omega) (by omega)
    have t1 : ¬ ((n : Int) < 0) := by omega
    have t2 : ¬ ((n : Int) * i.bytes > 281474976710656) := by
      rw [hbytes] at hb
      have : ((n * i.bytes : Nat) : Int) ≤ ((140737488355328 : Nat) : Int) := Int.ofNat_le.2 hb
      rw [Int.natCast_mul] at this
      omega
    have t3 : ¬ (n * i.size = 0) := Nat.mul_ne_zero hn (by omega)
    have hzc := Ge z.cells hpos n
    rw [hsz] at hold
    simp [Builtin.append_, run_underlying ht, run_underlying hu, sizeOf, typeInfo, zeroValue, hi, hz, asInt, asIntOf, w1, t1, t2, t3, hn, hng, h63, h48, Question.forced, hzc, hold, newRow, grownCap]
    congr 2
    apply Array.ext'
    simp [List.append_assoc]
theorem oldOf_sound (r : Rel P B ι H w) {e : TypeId} {len : Nat} {base base' : Option Addr} {cap : Nat} {old : List Value}
    (hb : len ≠ 0 → ∃ b o L, base = some ⟨b, o, none⟩ ∧ ι b = some L ∧ base' = some ⟨L.cb, L.base + o, none⟩) (h : Qx (P.cellsOf e) len H base = some old) :
    ∃ old', RVs ι old old' ∧ old'.length = len * P.cellsOf e ∧ (Builtin.firstCells (P.cellsOf e) len (.slice base' len cap)).run P w.drew = .ok old'.toArray w.drew := by
  unfold Qx at h
  split at h
  · rename_i h0
    simp at h
    subst h
    subst h0
    refine ⟨[], .nil, by simp, ?_⟩
    cases base' <;> simp [Builtin.firstCells, loadCells, loadCellsFrom]
  · rename_i h0
    obtain ⟨b, o, L, rfl, hbL, rfl⟩ := hb h0
    obtain ⟨l', h1, h2, h3⟩ := r.cut hbL h
    refine ⟨l', h1, h2, ?_⟩
    simp only [Builtin.firstCells]
    rw [← h2]
    exact loadCells_heap rfl fun j v hv => by rw [add_none]; exact h3 j v hv
theorem splA_old : ∀ (vs : List Value) (cs : Array Value) (o j : Nat), j < o → (splA cs o vs)[j]? = cs[j]?
  | [], _, _, _, _ => rfl
  | v :: r, cs, o, j, h => by
    simp only [splA]
    rw [splA_old r _ (o + 1) j (by omega), Array.getElem?_setIfInBounds_ne (by omega)]
theorem splA_new : ∀ (vs : List Value) (cs : Array Value) (o j : Nat), j < vs.length → o + vs.length ≤ cs.size → (splA cs o vs)[o + j]? = vs[j]?
  | v :: r, cs, o, 0, _, hs => by
    simp only [splA]
    rw [splA_old r _ (o + 1) _ (by omega)]
    simp at hs
    simp [show o < cs.size by omega]
  | v :: r, cs, o, j + 1, h, hs => by
    simp only [splA]
    have := splA_new r (cs.setIfInBounds o v) (o + 1) j (by simpa using h) (by simp at hs ⊢; omega)
    rw [show o + (j + 1) = o + 1 + j by omega, this]
    simp
theorem Rel.grown (r : Rel P B ι H w) {e : TypeId} {z : Value} {i : TypeInfo} (hi : P.info? e = some i) (hz : z.cells.size = i.size) {old old' new new' : List Value} (ho : RVs ι old old') (hnw : RVs ι new new') {need cap : Nat}
    (hl : (old ++ new).length = need * P.cellsOf e) {x : Result Value}
    (hx : x = .ok (.slice (some ⟨w.heap.size, 0, none⟩) need (grownCap w need cap e)) (w.drew.alloc (.cells (old' ++ (new' ++ (Builtin.zeroCells z.cells (grownCap w need cap e - need)).toList)).toArray e))) :
    XR P B ι H w (.slice (some ⟨H.n, 0, none⟩) need (2 * need + 1)) (H.push (.cells (old ++ new) e true)) x := by
  have hge := grown_le w need cap e
  have hb := RB.fresh (rest := (Builtin.zeroCells z.cells (grownCap w need cap e - need)).toList) r.drew (ho.append hnw) e
  rw [List.append_assoc] at hb
  have hlen : (old' ++ (new' ++ (Builtin.zeroCells z.cells (grownCap w need cap e - need)).toList)).length = grownCap w need cap e * P.cellsOf e := by
    have h1 := (ho.append hnw).length
    rw [hl] at h1
    rw [← List.append_assoc, List.length_append, ← h1]
    simp only [Array.length_toList, size_zeroCells, hz, VK hi]
    rw [← Nat.add_mul]
    congr 1
    omega
  generalize (old' ++ (new' ++ (Builtin.zeroCells z.cells (grownCap w need cap e - need)).toList)) = all at *
  obtain ⟨r', s'⟩ := r.drew.push _ _ ⟨w.heap.size, 0, P.cellsOf e, all.length⟩ rfl hb
  refine ⟨_, _, _, hx, ?_, r', (Stp.drew r.dom).trans s'⟩
  exact .sli (b := H.n) (o := 0) (L := ⟨w.heap.size, 0, P.cellsOf e, all.length⟩) (by simp [up]) hge hge (by simp only [Nat.zero_add]; exact hlen.symm)
theorem app_sound (r : Rel P B ι H w) {t tx ty e : TypeId} (ht : P.underlying t = some (.slice e)) {z : List Value} (hz : zrow P e = some z) {s s' x x' v : Value} {H' : AHeap}
    (hs : RV ι s s') (hx : RV ι x x') (h : app e z.length (P.bytesOf e) s (srcOf P e z tx x H) H = some (v, H')) :
    XR P B ι H w v H' ((Builtin.append_ #[t, tx] ty #[s', x']).run P w) := by
  obtain ⟨i, zv, hi, hz', hg, hzl, hsz, hpos⟩ := ZI hz
  have hcs : P.cellsOf e = z.length := by rw [VK hi, hsz]
  have hzs : zv.cells.size = i.size := by rw [← hsz, ← hzl]; simp
  rw [← hcs] at h
  unfold app at h
  split at h
  · rename_i base len code
    simp only [Option.bind_eq_some_iff] at h
    obtain ⟨⟨n, new⟩, hsrc, h⟩ := h
    obtain ⟨new', hnew, hsr⟩ := srcOf_sound r hz hx hsrc
    simp only at h
    have hform : ∃ base' cap, s' = .slice base' len cap ∧ len ≤ cap ∧ (code % 2 = 0 → cap = code / 2) ∧ code / 2 ≤ cap ∧
        (len ≠ 0 ∨ code / 2 ≠ 0 → ∃ b o L, base = some ⟨b, o, none⟩ ∧ ι b = some L ∧ base' = some ⟨L.cb, L.base + o, none⟩ ∧ (code % 2 = 1 → L.base + o + cap * L.sz = L.total)) ∧
        (len = 0 ∧ code / 2 = 0 → cap = 0 ∨ ∃ b o L, base = some ⟨b, o, none⟩ ∧ ι b = some L ∧ base' = some ⟨L.cb, L.base + o, none⟩ ∧ (code % 2 = 1 → L.base + o + cap * L.sz = L.total)) ∧
        (code / 2 ≠ 0 → ∀ m, m ≤ code / 2 → RV ι (.slice base m code) (.slice base' m cap)) := by
      cases hs with
      | nils => exact ⟨none, 0, rfl, by omega, by simp, by omega, by simp, by simp, by simp⟩
      | sle hb hc => rename_i b o c L; exact ⟨_, c, rfl, hc, by omega, by omega, fun _ => ⟨b, o, L, rfl, hb, rfl, by omega⟩, fun _ => .inr ⟨b, o, L, rfl, hb, rfl, by omega⟩, fun _ m hm => .sle hb (by omega)⟩
      | sli hb hc hn htot => rename_i b o c cc L; exact ⟨_, cc, rfl, hn, by omega, by omega, fun _ => ⟨b, o, L, rfl, hb, rfl, fun _ => htot⟩, fun _ => .inr ⟨b, o, L, rfl, hb, rfl, fun _ => htot⟩, fun _ m hm => .sli hb hc (by omega) htot⟩
      | sl0 hk => exact ⟨_, 0, rfl, by omega, by omega, by omega, by omega, by simp, by omega⟩
    obtain ⟨base', cap, rfl, hlc, hex, hcc, hloc, hloc0, hre⟩ := hform
    split at h
    · -- nothing is appended
      rename_i hn0
      simp at h
      obtain ⟨rfl, rfl⟩ := h
      subst hn0
      refine XR.still r hs ?_
      rcases hsr.how with ⟨hk, hl, hc⟩ | ⟨k, hu, rfl, hb, hmax', i', z', hi', hz'', hpos', hzs', rfl⟩
      · have hnil : new' = [] := by
          have := hsr.len
          simp at this
          exact this
        subst hnil
        have hc' := hc w rfl
        rw [VK hi] at hc'
        rcases hk with ⟨e', hk⟩ | hk <;> cases base' <;> simp [Builtin.append_, run_underlying ht, run_underlying hk, sizeOf, typeInfo, hi, hl, hlc, hc', storeCells]
      · have w1 : IntKind.i64.wrap (0 : Int) = 0 := by decide
        cases base' <;> simp [Builtin.append_, run_underlying ht, run_underlying hu, sizeOf, typeInfo, zeroValue, hi, hz', asInt, asIntOf, w1, hlc, storeCells]
    · rename_i hn0
      split at h
      · simp at h
      · rename_i hbig
        have hbig1 : (len + n) * P.bytesOf e ≤ 140737488355328 := by omega
        have hbig2 : len + n ≤ 140737488355328 := by omega
        split at h
        · -- there is room for certain
          rename_i hroom
          obtain ⟨b, o, L, rfl, hb, rfl, _⟩ := hloc (.inr (by omega))
          simp only [Option.map_eq_some_iff] at h
          obtain ⟨H1, hst, h⟩ := h
          cases h
          obtain ⟨xs, e0, hH, hfit, hone, rfl⟩ := stL_inv hst
          obtain ⟨k1, k2, k3⟩ := r.stored hb hH hnew hfit hone
          refine ⟨ι, .slice (some ⟨L.cb, L.base + o, none⟩) (len + n) cap, _, ?_, ?_, k2, k3⟩
          · have := run_append_in (ty := ty) ht hi hn0 hsr (show len + n ≤ cap by omega) (g := L.cb) (off := L.base + o) (by rw [Nat.add_assoc]; exact k1)
            rw [Nat.add_assoc] at this
            exact this
          · refine hre (fun h0 => ?_) _ hroom
            rw [h0] at hroom
            exact hn0 (Nat.le_zero.1 (Nat.le_trans (Nat.le_add_left n len) hroom))
        · rename_i hroom
          split at h
          · simp at h
          rename_i hones
          have hones' : new.all one = true := by simpa using hones
          simp only [Option.bind_eq_some_iff, Option.map_eq_some_iff] at h
          obtain ⟨old, hold, H1, hkill, h⟩ := h
          cases h
          have hloc1 : len ≠ 0 → ∃ b o L, base = some ⟨b, o, none⟩ ∧ ι b = some L ∧ base' = some ⟨L.cb, L.base + o, none⟩ := fun hl => by
            obtain ⟨b, o, L, h1, h2, h3, _⟩ := hloc (.inl hl)
            exact ⟨b, o, L, h1, h2, h3⟩
          obtain ⟨old', hold', holdlen, holdrun⟩ := oldOf_sound (cap := cap) r hloc1 hold
          have hlen : (old ++ new).length = (len + n) * P.cellsOf e := by
            rw [List.length_append, hold'.length, hnew.length, holdlen, hsr.len, Nat.add_mul]
          split at hkill
          · -- the capacity is known: a new row
            rename_i hev
            simp at hkill
            subst hkill
            exact r.grown hi hzs hold' hnew hlen (run_append_out ht hi hz' hn0 hsr holdrun (by have := hex hev; omega) hbig2 hbig1)
          · rename_i hodd
            have hodd' : code % 2 = 1 := by omega
            unfold kill at hkill
            split at hkill
            · rename_i b o
              split at hkill
              · rename_i xs e' hH
                split at hkill
                · rename_i hend
                  obtain ⟨rfl, hend⟩ := hend
                  simp at hkill
                  subst hkill
                  obtain ⟨rk, sk⟩ := r.kill b
                  by_cases hroom' : len + n ≤ cap
                  · -- in place: the block goes on under another name
                    have hL : ∃ L, ι b = some L ∧ base' = some ⟨L.cb, L.base + o, none⟩ ∧ L.base + o + cap * L.sz = L.total := by
                      by_cases h00 : len ≠ 0 ∨ code / 2 ≠ 0
                      · obtain ⟨b1, o1, L, h1, h2, h3, h4⟩ := hloc h00
                        cases h1
                        exact ⟨L, h2, h3, h4 hodd'⟩
                      · rcases hloc0 (by omega) with h1 | ⟨b1, o1, L, h1, h2, h3, h4⟩
                        · omega
                        · cases h1
                          exact ⟨L, h2, h3, h4 hodd'⟩
                    obtain ⟨L, hb, rfl, htot⟩ := hL
                    have hrb := r.blk b L hb
                    rw [hH] at hrb
                    obtain ⟨cs, e1, fr, g1, g2, g3, g4, g5⟩ := hrb
                    obtain ⟨gB, rfl, gsz, gfr⟩ := g5 rfl
                    rw [gsz] at htot
                    have hcap : (len + n) * P.cellsOf e1 ≤ cap * P.cellsOf e1 := Nat.mul_le_mul_right _ hroom'
                    rw [Nat.add_mul] at hcap
                    have hnl := hsr.len
                    have hfit : L.base + o + len * P.cellsOf e1 + new'.length ≤ cs.size := by rw [g2, hnl]; omega
                    have hst : (storeCells ⟨L.cb, L.base + o + len * P.cellsOf e1, none⟩ new').run P w = .ok () (w.setCells L.cb (L.base + o + len * P.cellsOf e1) new') := by
                      have := run_storeCells_cells (P := P) L.cb (L.base + o + len * P.cellsOf e1) new' 0 w (fun j hj => by
                          have : L.base + o + len * P.cellsOf e1 + 0 + j < cs.size := by omega
                          simp only [World.cell?, g1]
                          simp
                          omega) (fun j hj => by
                          have := gfr (L.base + o + len * P.cellsOf e1 + 0 + j) (by omega)
                          simp only [World.frozen?, g1]
                          simp
                          omega) (ones_sound hnew hones')
                      simpa using this
                    obtain ⟨s1, s2, s3, s4, s5, s6⟩ := ZB new' L.cb (L.base + o + len * P.cellsOf e1) w g1
                    have howned : XW (H.f b) = true := by rw [hH]; rfl
                    obtain ⟨rt, st⟩ := r.turn hb howned .dead trivial s3 s2 s4 s5 s6
                    have holdget : ∀ j u, old[j]? = some u → j < len * P.cellsOf e1 ∧ xs[o + j]? = some u := by
                      intro j u hj
                      unfold Qx at hold
                      split at hold
                      · simp at hold
                        subst hold
                        simp at hj
                      · simp only at hold
                        obtain ⟨xs', e', rw', hH', hle, rfl⟩ := cut_inv hold
                        rw [hH] at hH'
                        cases hH'
                        rw [List.getElem?_take] at hj
                        split at hj
                        · rename_i hlt
                          rw [List.getElem?_drop] at hj
                          exact ⟨hlt, hj⟩
                        · simp at hj
                    have holdl : old.length = len * P.cellsOf e1 := by rw [hold'.length, holdlen]
                    have hk : RB P B ι (w.setCells L.cb (L.base + o + len * P.cellsOf e1) new') ⟨L.cb, L.base + o, L.sz, L.total⟩ (.cells (old ++ new) e1 true) := by
                      refine ⟨_, e1, fr, s1, by simpa using g2, ?_, fun j u hj => ?_, fun _ => ⟨gB, rfl, gsz, by simpa using gfr⟩⟩
                      · rw [hlen, splA_size, g2, Nat.add_mul]
                        show L.base + o + (len * P.cellsOf e1 + n * P.cellsOf e1) ≤ L.total
                        omega
                      · show ∃ v', (splA cs (L.base + o + len * P.cellsOf e1) new')[L.base + o + j]? = some v' ∧ RV ι u v'
                        by_cases hlt : j < old.length
                        · rw [List.getElem?_append_left hlt] at hj
                          obtain ⟨hj1, hj2⟩ := holdget j u hj
                          obtain ⟨v', hv', hr⟩ := g4 (o + j) u hj2
                          refine ⟨v', ?_, hr⟩
                          rw [splA_old _ _ _ _ (by omega), Nat.add_assoc]
                          exact hv'
                        · rw [List.getElem?_append_right (by omega)] at hj
                          obtain ⟨v', hv', hr⟩ := hnew.get hj
                          refine ⟨v', ?_, hr⟩
                          have hjl : j - old.length < new'.length := (List.getElem?_eq_some_iff.1 hv').1
                          have := splA_new new' cs (L.base + o + len * P.cellsOf e1) (j - old.length) hjl hfit
                          rw [← hv', ← this]
                          congr 1
                          omega
                    have rl := rt.lay (.cells (old ++ new) e1 true) ⟨L.cb, L.base + o, L.sz, L.total⟩ (w' := w.setCells L.cb (L.base + o + len * P.cellsOf e1) new') (by rw [s3]; exact (r.lt b L hb).2) (Nat.le_refl _) hk
                      (fun c M hc hal => by
                        by_cases hcb : c = b
                        · subst hcb; simp [Xf] at hal
                        · rw [AHeap.set_other _ _ hcb] at hal
                          exact (r.inj b c L M hb hc (Ne.symm hcb) howned hal).symm) gB (fun _ _ _ => rfl)
                    refine ⟨_, .slice (some ⟨L.cb, L.base + o, none⟩) (len + n) cap, _, run_append_in (ty := ty) ht hi hn0 hsr hroom' hst, ?_, rl, ?_⟩
                    · have : RV (up ι (H.set b .dead).n ⟨L.cb, L.base + o, L.sz, L.total⟩) (.slice (some ⟨(H.set b .dead).n, 0, none⟩) (len + n) (2 * (len + n) + 1)) (.slice (some ⟨L.cb, L.base + o + 0, none⟩) (len + n) cap) :=
                        .sli (L := ⟨L.cb, L.base + o, L.sz, L.total⟩) (by simp [up]) hroom' hroom' (by rw [gsz]; exact htot)
                      simpa using this
                    · constructor
                      · intro c hc; simp [up, show c ≠ H.n by omega]
                      · simp
                      · rw [s3]; exact Nat.le_refl _
                      · exact s4
                      · exact s5
                      · exact s6
                      · exact st.fr
                      · intro c M hc hM
                        by_cases hcn : c = H.n
                        · simp [up, hcn] at hM
                          subst hM
                          exact .inr ⟨b, L, (r.lt b L hb).1, hb, howned, rfl⟩
                        · simp [up, hcn] at hM
                          have := (r.lt c M hM).1
                          omega
                      · intro c M hc hM ho
                        have hcn : c ≠ (H.set b .dead).n := by simp; omega
                        rw [AHeap.push_old _ _ hcn] at ho
                        exact st.own c M hc hM ho
                      · exact (VO.set _ _ _ (by simp [Xf])).trans (VO.push _ _)
                  · -- a new row
                    have := rk.grown (H := H.set b .dead) hi hzs hold' hnew hlen (run_append_out (ty := ty) ht hi hz' hn0 hsr holdrun (by omega) hbig2 hbig1)
                    obtain ⟨ι', v', w', q1, q2, q3, q4⟩ := this
                    exact ⟨ι', v', w', q1, by simpa using q2, q3, sk.trans q4⟩
                · simp at hkill
              · simp at hkill
            · simp at hkill
  · simp at h
end Go.Proofs.YtmiinbhnfojnbaaDoor.Eng

namespace Go.Proofs.YtmiinbhnfojnbaaDoor.Eng
open Go
variable {P : Program} {B : Nat} {ι : Emb} {H : AHeap} {w : World}
theorem slice_at {b o n code : Nat} {x' : Value} (hn : n ≠ 0) (h : RV ι (.slice (some ⟨b, o, none⟩) n code) x') : ∃ L c, ι b = some L ∧ x' = .slice (some ⟨L.cb, L.base + o, none⟩) n c := by
  cases h with
  | sle hb hc => exact ⟨_, _, hb, rfl⟩
  | sli hb hc hn' ht => exact ⟨_, _, hb, rfl⟩
  | sl0 hk => omega
theorem slice_len {a : Option Addr} {n code : Nat} {x' : Value} (h : RV ι (.slice a n code) x') : ∃ a' c, x' = .slice a' n c := by
  cases h with
  | nils => exact ⟨_, _, rfl⟩
  | sle hb hc => exact ⟨_, _, rfl⟩
  | sli hb hc hn' ht => exact ⟨_, _, rfl⟩
  | sl0 hk => exact ⟨_, _, rfl⟩
theorem firstCells_zero (sz : Nat) (a : Option Addr) (n c : Nat) : (Builtin.firstCells sz 0 (.slice a n c)).run P w = .ok #[] w := by
  cases a <;> simp [Builtin.firstCells, loadCells, loadCellsFrom]
theorem xcopy_sound (r : Rel P B ι H w) {ts : List TypeId} {ty : TypeId} {d d' s s' v : Value} {H' : AHeap} (hd : RV ι d d') (hs : RV ι s s') (h : xcopy P ts d s H = some (v, H')) :
    XR P B ι H w v H' ((Builtin.copy_ ts.toArray ty #[d', s']).run P w) := by
  unfold xcopy at h
  split at h
  · simp at h
  · rename_i t rest
    split at h
    · rename_i e hu
      simp only [Option.bind_eq_some_iff] at h
      obtain ⟨sz, hsz, h⟩ := h
      have hz := Ut hsz
      unfold cpy at h
      split at h
      · rename_i base dl dc sb sl sc
        obtain ⟨base', dc', rfl⟩ := slice_len hd
        obtain ⟨sb', sc', rfl⟩ := slice_len hs
        split at h
        · rename_i h0
          simp at h
          obtain ⟨rfl, rfl⟩ := h
          refine XR.still r (v' := goInt 0) (.int _ _) ?_
          have := firstCells_zero (P := P) (w := w) sz sb' sl sc'
          cases base' <;> simp [Builtin.copy_, run_under hu, Builtin.lenOf, h0, hz, this, storeCells]
        · rename_i h0
          have hm : Nat.min sl dl ≤ sl ∧ Nat.min sl dl ≤ dl := ⟨Nat.min_le_left _ _, Nat.min_le_right _ _⟩
          split at h
          · rename_i b1 o1 b o
            simp only [Option.bind_eq_some_iff, Option.map_eq_some_iff] at h
            obtain ⟨l, hl, H1, hst, h⟩ := h
            cases h
            obtain ⟨L1, c1, hb1, e1⟩ := slice_at (by omega) hs
            obtain ⟨L, c, hb, e2⟩ := slice_at (by omega) hd
            cases e1
            cases e2
            obtain ⟨l', k1, k2, k3⟩ := r.loadCells hb1 hl
            obtain ⟨xs, e0, hH, hfit, hone, rfl⟩ := stL_inv hst
            obtain ⟨q1, q2, q3⟩ := r.stored hb hH k1 hfit hone
            refine ⟨ι, goInt (Nat.min sl dl), _, ?_, .int _ _, q2, q3⟩
            simp [Builtin.copy_, run_under hu, Builtin.lenOf, hz, Builtin.firstCells, k3, q1]
          · simp at h
      · simp at h
    · simp at h
theorem xclear_sound (r : Rel P B ι H w) {ts : List TypeId} {ty : TypeId} {x x' v : Value} {H' : AHeap} (hx : RV ι x x') (h : xclear P ts x H = some (v, H')) :
    XR P B ι H w v H' ((Builtin.clear_ ts.toArray ty #[x']).run P w) := by
  unfold xclear at h
  split at h
  · simp at h
  · rename_i t rest
    split at h
    · rename_i e hu
      cases hx
      simp at h
      obtain ⟨rfl, rfl⟩ := h
      refine XR.still r (v' := .tuple #[]) (Wc (n := 1) (by simp [gr])) ?_
      simp [Builtin.clear_, run_under hu]
    · rename_i e b o n code hu
      split at h
      · rename_i hn
        subst hn
        simp at h
        obtain ⟨rfl, rfl⟩ := h
        obtain ⟨a', c', rfl⟩ := slice_len hx
        refine XR.still r (v' := .tuple #[]) (Wc (n := 1) (by simp [gr])) ?_
        cases a' <;> simp [Builtin.clear_, run_under hu]
      · rename_i hn
        simp only [Option.bind_eq_some_iff, Option.map_eq_some_iff] at h
        obtain ⟨z, hz, H1, hst, h⟩ := h
        cases h
        obtain ⟨i, zv, hi, hz', hg, hzl, hsz, hpos⟩ := ZI hz
        obtain ⟨L, c, hb, rfl⟩ := slice_at hn hx
        obtain ⟨xs, e0, hH, hfit, hone, rfl⟩ := stL_inv hst
        have hcell : RVs ι z z := by rw [← hzl]; exact gr_cells hg
        obtain ⟨q1, q2, q3⟩ := r.stored hb hH (ZH hcell n) hfit hone
        refine ⟨ι, .tuple #[], _, ?_, Wc (n := 1) (by simp [gr]), q2, q3⟩
        have hpos' : 0 < zv.cells.size := by rw [← hzl] at hpos; simpa using hpos
        have := Ge zv.cells hpos' n
        rw [hzl] at this
        obtain ⟨m, rfl⟩ : ∃ m, n = m + 1 := ⟨n - 1, by omega⟩
        simp [Builtin.clear_, run_under hu, zeroValue, typeInfo, hi, hz', this, q1]
    · rename_i kt e hu
      cases hx
      simp at h
      obtain ⟨rfl, rfl⟩ := h
      refine XR.still r (v' := .tuple #[]) (Wc (n := 1) (by simp [gr])) ?_
      simp [Builtin.clear_, run_under hu]
    · rename_i kt e b hu
      split at h
      · rename_i es hH
        simp at h
        obtain ⟨rfl, rfl⟩ := h
        cases hx with
        | map hL =>
          rename_i L
          have hb := r.blk b L hL
          rw [hH] at hb
          obtain ⟨hB, ents, clock, hheap, M⟩ := hb
          have hlt : L.cb < w.heap.size := (r.lt b L hL).2
          have hget := Go.MapKept.run_getObj_map (P := P) hheap
          have hset := Go.MapKept.run_setObj_map (P := P) (.map #[] clock) hheap
          have M' : MapRel ι [] #[] clock := ⟨by simp, by simp, rfl, by simp, by simp, by simp, by simp⟩
          obtain ⟨d1, d2⟩ := r.turn hL (by rw [hH]; rfl) (.map []) (w' := { w with heap := w.heap.setIfInBounds L.cb (.map #[] clock) }) ⟨hB, #[], clock, by simp [hlt], M'⟩ (by simp) (fun c hc => by simp [Array.getElem?_setIfInBounds_ne (Ne.symm hc)]) rfl rfl rfl
          refine ⟨ι, .tuple #[], _, ?_, Wc (n := 1) (by simp [gr]), d1, d2⟩
          simp [Builtin.clear_, run_under hu, hget, hset, Result.andThen]
      · simp at h
    · simp at h
theorem xlen_sound {ts : List TypeId} {ty : TypeId} {x x' v : Value} (hx : RV ι x x') (h : xlen P ts x = some v) :
    (Builtin.len_ ts.toArray ty #[x']).run P w = .ok v w ∧ RV ι v v := by
  unfold xlen at h
  split at h
  · simp at h
  · rename_i t rest
    split at h
    · rename_i s hu
      cases hx
      simp at h
      subst h
      exact ⟨by simp [Builtin.len_, run_under hu, Qd], .int _ _⟩
    · rename_i e a n c hu
      obtain ⟨a', c', rfl⟩ := slice_len hx
      simp at h
      subst h
      exact ⟨by simp [Builtin.len_, run_under hu], .int _ _⟩
    · rename_i n e hu
      simp at h
      subst h
      exact ⟨by simp [Builtin.len_, run_under hu], .int _ _⟩
    · simp at h
theorem xcap_sound {ts : List TypeId} {ty : TypeId} {x x' v : Value} (hx : RV ι x x') (h : xcap P ts x = some v) :
    (Builtin.cap_ ts.toArray ty #[x']).run P w = .ok v w ∧ RV ι v v := by
  unfold xcap at h
  split at h
  · simp at h
  · rename_i t rest
    split at h
    · rename_i e hu
      cases hx
      simp at h
      subst h
      exact ⟨by simp [Builtin.cap_, run_under hu], .int _ _⟩
    · rename_i e b o n code hu
      split at h
      · rename_i hc
        simp at h
        subst h
        cases hx with
        | sle hL hn => exact ⟨by simp [Builtin.cap_, run_under hu], .int _ _⟩
        | sli hL _ _ _ => omega
        | sl0 hk =>
          have : code = 0 := by omega
          subst this
          exact ⟨by simp [Builtin.cap_, run_under hu], .int _ _⟩
      · simp at h
    · simp at h
open Go.MapKept in
theorem isKey_of {d : TypeDesc} {k : Value} (h : Wx d k = true) : IsKey d k := by
  cases d <;> cases k <;> simp_all [Wx, IsKey]
theorem keyOk_rel {d : TypeDesc} {k k' : Value} (h : Wx d k = true) (hr : RV ι k k') : k' = k := by
  cases d <;> cases k <;> simp [Wx] at h <;> cases hr <;> rfl
theorem Ug {d : TypeDesc} {a b : Value} (ha : Wx d a = true) (hb : Wx d b = true) : keq a b = true ↔ a = b := by
  cases d <;> cases a <;> cases b <;> simp_all [Wx, keq, Go.MapKept.bytes_beq]
theorem keyDesc_inv {t : TypeId} {d : TypeDesc} (h : keyDesc P t = some d) : P.underlying t = some d := by
  unfold keyDesc at h
  split at h <;> first | (rename_i hu; rw [hu]; simpa using h) | simp at h
theorem sameBits_self {d : TypeDesc} {k : Value} (h : Wx d k = true) : Instr.sameBits 10000 k k = true := by
  cases d <;> cases k <;> simp_all [Wx, Instr.sameBits, Go.MapKept.bytes_beq]
theorem key_inj : ∀ {l : List MapEntry}, (l.map (·.key)).Nodup → ∀ {a b : MapEntry}, a ∈ l → b ∈ l → a.key = b.key → a = b
  | [], _, a, _, ha, _, _ => by cases ha
  | x :: l, h, a, b, ha, hb, e => by
    simp only [List.map_cons, List.nodup_cons] at h
    have hno : ∀ c, c ∈ l → c.key = x.key → False := fun c hc hk => h.1 (List.mem_map.2 ⟨c, hc, hk⟩)
    rcases List.mem_cons.1 ha with ha' | ha' <;> rcases List.mem_cons.1 hb with hb' | hb'
    · rw [ha', hb']
    · exact (hno b hb' (by rw [← e, ha'])).elim
    · exact (hno a ha' (by rw [e, hb'])).elim
    · exact key_inj h.2 ha' hb' e
theorem entries_inv (r : Rel P B ι H w) {d : TypeDesc} {m m' : Value} {es : List (Value × Value)} (hm : RV ι m m') (h : XX d H m = some es) :
    (m = .map none ∧ m' = .map none ∧ es = []) ∨ ∃ b L ents clock, m = .map (some b) ∧ m' = .map (some L.cb) ∧ ι b = some L ∧ H.f b = .map es ∧ (∀ p ∈ es, Wx d p.1 = true) ∧ w.heap[L.cb]? = some (.map ents clock) ∧ MapRel ι es ents clock ∧ B ≤ L.cb := by
  unfold XX at h
  split at h
  · cases hm
    simp at h
    exact .inl ⟨rfl, rfl, h⟩
  · rename_i b
    split at h
    · rename_i es' hH
      split at h
      · rename_i hall
        simp at h
        subst h
        cases hm with
        | map hL =>
          rename_i L
          have hb := r.blk b L hL
          rw [hH] at hb
          obtain ⟨h0, ents, clock, h1, h2⟩ := hb
          exact .inr ⟨b, L, ents, clock, rfl, rfl, hL, hH, fun p hp => List.all_eq_true.1 hall p hp, h1, h2, h0⟩
      · simp at h
    · simp at h
  · simp at h
theorem map_find {d : TypeDesc} {k : Value} {es : List (Value × Value)} {ents : Array MapEntry} {clock : Nat} (hk : Wx d k = true) (hes : ∀ p ∈ es, Wx d p.1 = true) (M : MapRel ι es ents clock) :
    (mget es k = none ∧ Instr.findNow d k ents.toList 0 = some none ∧ (∀ x ∈ ents.toList, x.key ≠ k) ∧ ∀ p ∈ es, p.1 ≠ k) ∨
    ∃ (j : Nat) (e : MapEntry) (v : Value), mget es k = some v ∧ Instr.findNow d k ents.toList 0 = some (some (j, e.val)) ∧ ents.toList[j]? = some e ∧ e.key = k ∧ RV ι v e.val ∧ ∃ p ∈ es, p.1 = k := by
  have hkeys : ∀ x ∈ ents.toList, Go.MapKept.IsKey d x.key := fun x hx => by
    obtain ⟨p, hp, he⟩ := M.bwd x hx
    rw [← he]
    exact isKey_of (hes p hp)
  rcases Go.MapKept.findNow_spec (isKey_of hk) ents.toList 0 hkeys with ⟨h1, h2⟩ | ⟨j, e, h1, h2, h3⟩
  · have hno : ∀ p ∈ es, p.1 ≠ k := fun p hp he => by
      obtain ⟨x, hx, hxk, _⟩ := M.fwd p hp
      exact h2 x hx (hxk.trans he)
    refine .inl ⟨?_, h1, h2, hno⟩
    unfold mget
    rw [Option.map_eq_none_iff, List.find?_eq_none]
    intro p hp hq
    exact hno p hp ((Ug hk (hes p hp)).1 hq).symm
  · have he : e ∈ ents.toList := List.mem_of_getElem? h2
    obtain ⟨p, hp, hpk⟩ := M.bwd e he
    cases hf : es.find? (fun p => keq k p.1) with
    | none =>
      rw [List.find?_eq_none] at hf
      exact absurd ((Ug hk (hes p hp)).2 (by rw [hpk, h3])) (hf p hp)
    | some q =>
      have hq : q ∈ es := List.mem_of_find?_eq_some hf
      have hq2 : keq k q.1 = true := List.find?_some (p := fun p : Value × Value => keq k p.1) hf
      have hqk : q.1 = k := ((Ug hk (hes q hq)).1 hq2).symm
      obtain ⟨x, hx, hxk, hxr⟩ := M.fwd q hq
      have hxe : x = e := key_inj M.ckeys hx he (by rw [hxk, hqk, h3])
      subst hxe
      refine .inr ⟨j, x, q.2, by unfold mget; rw [hf]; rfl, by simpa using h1, h2, h3, hxr, q, hq, hqk⟩
theorem xlookup_sound (r : Rel P B ι H w) {t : TypeId} {m m' k k' v : Value} {ok : Bool} (hm : RV ι m m') (hk : RV ι k k') (h : Xb P t m k ok H = some v) :
    ∃ v', (Instr.lookup t m' k' ok).run P w = .ok v' w ∧ RV ι v v' := by
  unfold Xb at h
  split at h
  · rename_i kt e hu
    split at h
    · rename_i d z hd hz
      split at h
      · rename_i hko
        simp only [Option.map_eq_some_iff] at h
        obtain ⟨es, hes, h⟩ := h
        obtain rfl := keyOk_rel hko hk
        have hdu := keyDesc_inv hd
        obtain ⟨i, hi, hz', hg⟩ := Qo hz
        have hzr : (zeroValue e).run P w = .ok z w := by simp [zeroValue, typeInfo, hi, hz']
        have hck : ∀ b, (Instr.checkKey b 10000 kt k').run P w = .ok () w := fun b => Go.MapKept.run_checkKey hdu (isKey_of hko) b 9999
        have fin : ∀ (u u' : Value) (b : Bool), RV ι u u' → RV ι (if ok then .tuple #[u, .bool b] else u) (if ok then .tuple #[u', .bool b] else u') := fun u u' b hr => by
          cases ok with
          | false => exact hr
          | true => exact RVs.tup (.cons hr (.cons (.bool b) .nil))
        rcases entries_inv r hm hes with ⟨rfl, rfl, rfl⟩ | ⟨b, L, ents, clock, rfl, rfl, hL, hH, hkeys, hheap, M, _⟩
        · have h : v = if ok then .tuple #[z, .bool false] else z := h.symm
          subst h
          have hf : (Instr.findKey kt k' []).run P w = .ok none w := Go.MapKept.run_findKey hdu rfl
          refine ⟨_, ?_, fin z z false (Wc hg)⟩
          unfold Instr.lookup
          simp [Sem.run_bind, run_under hu, hck, hf, hzr, Result.andThen]
        · have hget := Go.MapKept.run_getObj_map (P := P) hheap
          rcases map_find hko hkeys M with ⟨g1, g2, _, _⟩ | ⟨j, x, u, g1, g2, _, _, g5, _⟩
          · rw [g1] at h
            have h : v = if ok then .tuple #[z, .bool false] else z := h.symm
            subst h
            have hf := Go.MapKept.run_findKey (w := w) hdu g2
            refine ⟨_, ?_, fin z z false (Wc hg)⟩
            unfold Instr.lookup
            simp [Sem.run_bind, run_under hu, hget, hck, hf, hzr, Result.andThen]
          · rw [g1] at h
            have h : v = if ok then .tuple #[u, .bool true] else u := h.symm
            subst h
            have hf := Go.MapKept.run_findKey (w := w) hdu g2
            refine ⟨_, ?_, fin u x.val true g5⟩
            unfold Instr.lookup
            simp [Sem.run_bind, run_under hu, hget, hck, hf, Result.andThen]
      · simp at h
    · simp at h
  · simp at h
theorem MapRel.stamped {es : List (Value × Value)} {ents : Array MapEntry} {clock : Nat} (M : MapRel ι es ents clock) : Go.MapKept.Stamped ents clock := ⟨M.clk, M.born, M.ckeys⟩
theorem mput_has {es : List (Value × Value)} {k v : Value} {d : TypeDesc} (hk : Wx d k = true) (hes : ∀ p ∈ es, Wx d p.1 = true) (h : ∃ p ∈ es, p.1 = k) : mput es k v = es.map fun p => if keq k p.1 then (p.1, v) else p := by
  obtain ⟨p, hp, he⟩ := h
  unfold mput
  rw [if_pos (List.any_eq_true.2 ⟨p, hp, (Ug hk (hes p hp)).2 he.symm⟩)]
theorem mput_new {es : List (Value × Value)} {k v : Value} {d : TypeDesc} (hk : Wx d k = true) (hes : ∀ p ∈ es, Wx d p.1 = true) (h : ∀ p ∈ es, p.1 ≠ k) : mput es k v = es ++ [(k, v)] := by
  unfold mput
  rw [if_neg]
  intro ha
  obtain ⟨p, hp, he⟩ := List.any_eq_true.1 ha
  exact h p hp ((Ug hk (hes p hp)).1 he).symm
theorem MapRel.push {es : List (Value × Value)} {ents : Array MapEntry} {clock : Nat} (M : MapRel ι es ents clock) {k v v' : Value} (hv : RV ι v v') (h1 : ∀ x ∈ ents.toList, x.key ≠ k) (h2 : ∀ p ∈ es, p.1 ≠ k) :
    MapRel ι (es ++ [(k, v)]) (ents.push { key := k, val := v', born := clock }) (clock + 1) := by
  obtain ⟨s1, s2, s3⟩ := Go.MapKept.stamped_push M.stamped (key := k) (val := v') h1
  refine ⟨fun p hp => ?_, fun x hx => ?_, by simp [M.len], ?_, s3, s2, s1⟩
  · rcases List.mem_append.1 hp with hp | hp
    · obtain ⟨x, hx, hk, hr⟩ := M.fwd p hp
      exact ⟨x, by simp only [Array.toList_push, List.mem_append]; exact .inl hx, hk, hr⟩
    · rw [List.mem_singleton] at hp
      subst hp
      exact ⟨_, by simp only [Array.toList_push, List.mem_append, List.mem_singleton]; exact .inr rfl, rfl, hv⟩
  · simp only [Array.toList_push, List.mem_append, List.mem_singleton] at hx
    rcases hx with hx | rfl
    · obtain ⟨p, hp, he⟩ := M.bwd x hx
      exact ⟨p, List.mem_append_left _ hp, he⟩
    · exact ⟨(k, v), by simp, rfl⟩
  · rw [List.map_append, List.nodup_append]
    refine ⟨M.keys, by simp, fun a ha b hb => ?_⟩
    simp only [List.map_cons, List.map_nil, List.mem_singleton] at hb
    subst hb
    obtain ⟨p, hp, rfl⟩ := List.mem_map.1 ha
    exact h2 p hp
theorem MapRel.turn {es : List (Value × Value)} {ents : Array MapEntry} {clock : Nat} (M : MapRel ι es ents clock) {d : TypeDesc} {k v v' : Value} (hk : Wx d k = true) (hes : ∀ p ∈ es, Wx d p.1 = true) (hv : RV ι v v') {j : Nat} {e : MapEntry} (hj : ents.toList[j]? = some e) (hek : e.key = k) :
    MapRel ι (es.map fun p => if keq k p.1 then (p.1, v) else p) (ents.modify j fun e => { e with key := k, val := v' }) clock := by
  have hj' : ents[j]? = some e := by simpa using hj
  have hkk : ∀ x, ents[j]? = some x → ({ x with key := k, val := v' } : MapEntry).key = x.key := fun x hx => by rw [hj'] at hx; cases hx; exact hek.symm
  obtain ⟨s1, s2, s3⟩ := Go.MapKept.stamped_modify M.stamped j (fun e => { e with key := k, val := v' }) (fun _ _ => rfl) (fun x _ hx => hkk x hx)
  have hfst : (es.map fun p => if keq k p.1 then (p.1, v) else p).map (·.1) = es.map (·.1) := by
    rw [List.map_map]
    refine List.map_congr_left fun p _ => ?_
    simp only [Function.comp]
    split <;> rfl
  have hmk := Go.MapKept.modify_keys (es := ents) j (fun e => { e with key := k, val := v' }) hkk
  have he : e ∈ ents.toList := List.mem_of_getElem? hj
  refine ⟨fun p hp => ?_, fun x hx => ?_, by simpa using M.len, by rw [hfst]; exact M.keys, s3, s2, s1⟩
  · obtain ⟨q, hq, rfl⟩ := List.mem_map.1 hp
    by_cases hqk : keq k q.1 = true
    · rw [if_pos hqk]
      have hq1 : q.1 = k := ((Ug hk (hes q hq)).1 hqk).symm
      refine ⟨{ e with key := k, val := v' }, ?_, hq1.symm, hv⟩
      refine List.mem_of_getElem? (i := j) ?_
      rw [Array.getElem?_toList, Array.getElem?_modify, if_pos rfl, hj']
      rfl
    · rw [if_neg hqk]
      obtain ⟨x, hx, hxk, hr⟩ := M.fwd q hq
      have hqn : q.1 ≠ k := fun h => hqk ((Ug hk (hes q hq)).2 h.symm)
      obtain ⟨i, hi⟩ := List.mem_iff_getElem?.1 hx
      have hij : j ≠ i := fun h => by
        subst h
        rw [hj] at hi
        cases hi
        exact hqn (hxk.symm.trans hek)
      refine ⟨x, List.mem_of_getElem? (i := i) ?_, hxk, hr⟩
      rw [Array.getElem?_toList, Array.getElem?_modify, if_neg hij, ← Array.getElem?_toList, hi]
  · have hxk : x.key ∈ (ents.modify j fun e => { e with key := k, val := v' }).toList.map (·.key) := List.mem_map.2 ⟨x, hx, rfl⟩
    rw [hmk] at hxk
    obtain ⟨y, hy, hyk⟩ := List.mem_map.1 hxk
    obtain ⟨p, hp, hpk⟩ := M.bwd y hy
    refine ⟨_, List.mem_map.2 ⟨p, hp, rfl⟩, ?_⟩
    rw [← hyk, ← hpk]
    split <;> rfl
theorem ZK (r : Rel P B ι H w) {t : TypeId} {m m' k k' v v' : Value} {H' : AHeap} (hm : RV ι m m') (hk : RV ι k k') (hv : RV ι v v') (h : Y8 P t m k v H = some H') :
    ∃ w', (Instr.mapUpdate t m' k' v').run P w = .ok () w' ∧ Rel P B ι H' w' ∧ Stp ι H w ι H' w' := by
  unfold Y8 at h
  split at h
  · rename_i kt e b hu
    split at h
    · rename_i d hd
      split at h
      · rename_i hko
        simp only [Option.map_eq_some_iff] at h
        obtain ⟨es, hes, rfl⟩ := h
        obtain rfl := keyOk_rel hko hk
        have hdu := keyDesc_inv hd
        have hck : ∀ b, (Instr.checkKey b 10000 kt k').run P w = .ok () w := fun b => Go.MapKept.run_checkKey hdu (isKey_of hko) b 9999
        rcases entries_inv r hm hes with ⟨h0, _, _⟩ | ⟨b', L, ents, clock, h0, rfl, hL, hH, hkeys, hheap, M, hB⟩
        · cases h0
        · cases h0
          have hget := Go.MapKept.run_getObj_map (P := P) hheap
          have hlt : L.cb < w.heap.size := (r.lt b L hL).2
          have done : ∀ (es' : List (Value × Value)) (ents' : Array MapEntry) (clock' : Nat), MapRel ι es' ents' clock' → Rel P B ι (H.set b (.map es')) { w with heap := w.heap.setIfInBounds L.cb (.map ents' clock') } ∧ Stp ι H w ι (H.set b (.map es')) { w with heap := w.heap.setIfInBounds L.cb (.map ents' clock') } := fun es' ents' clock' M' =>
            r.turn hL (by rw [hH]; rfl) _ ⟨hB, ents', clock', by simp [hlt], M'⟩ (by simp) (fun c hc => by simp [Array.getElem?_setIfInBounds_ne (Ne.symm hc)]) rfl rfl rfl
          rcases map_find hko hkeys M with ⟨_, g2, g3, g4⟩ | ⟨j, x, u, _, g2, g3, g4, _, g6⟩
          · have hf := Go.MapKept.run_findKey (w := w) hdu g2
            have hset := Go.MapKept.run_setObj_map (P := P) (.map (ents.push { key := k', val := v', born := clock }) (clock + 1)) hheap
            obtain ⟨d1, d2⟩ := done _ _ _ (M.push hv g3 g4)
            rw [mput_new hko hkeys g4]
            refine ⟨_, ?_, d1, d2⟩
            unfold Instr.mapUpdate
            simp [Sem.run_bind, run_under hu, hget, hck, hf, hset, Result.andThen]
          · have hf := Go.MapKept.run_findKey (w := w) hdu g2
            have hset := Go.MapKept.run_setObj_map (P := P) (.map (ents.modify j fun e => { e with key := k', val := v' }) clock) hheap
            obtain ⟨d1, d2⟩ := done _ _ _ (M.turn hko hkeys hv g3 g4)
            rw [mput_has hko hkeys g6]
            refine ⟨_, ?_, d1, d2⟩
            have hjx : ents[j]? = some x := by simpa using g3
            have hkt : (Instr.keyThatStays k' k').run P w = .ok k' w := by simp [Instr.keyThatStays, sameBits_self hko]
            unfold Instr.mapUpdate
            simp [Sem.run_bind, run_under hu, hget, hck, hf, hjx, g4, hkt, hset, Result.andThen]
      · simp at h
    · simp at h
  · simp at h
theorem mdel_len {d : TypeDesc} {k : Value} (hk : Wx d k = true) : ∀ {es : List (Value × Value)}, (es.map (·.1)).Nodup → (∀ p ∈ es, Wx d p.1 = true) → (∃ p ∈ es, p.1 = k) → (mdel es k).length + 1 = es.length
  | [], _, _, h => by obtain ⟨p, hp, _⟩ := h; simp at hp
  | q :: es, hn, hes, h => by
    rw [List.map_cons, List.nodup_cons] at hn
    have hq := Ug hk (hes q (by simp))
    unfold mdel
    rw [List.filter_cons]
    by_cases e : q.1 = k
    · have hkq : keq k q.1 = true := hq.2 e.symm
      have hno : es.filter (fun p => !keq k p.1) = es := List.filter_eq_self.2 fun p hp => by
        have : ¬ keq k p.1 = true := fun hh => hn.1 (by rw [e, (Ug hk (hes p (by simp [hp]))).1 hh]; exact List.mem_map_of_mem hp)
        simpa using this
      simp [hkq, hno]
    · have hkq : ¬ keq k q.1 = true := fun hh => e (hq.1 hh).symm
      have ih := mdel_len hk (es := es) hn.2 (fun p hp => hes p (by simp [hp])) (by
        obtain ⟨p, hp, he⟩ := h
        rcases List.mem_cons.1 hp with rfl | hp
        · exact absurd he e
        · exact ⟨p, hp, he⟩)
      unfold mdel at ih
      simp [hkq]
      exact ih
theorem mdel_none {d : TypeDesc} {k : Value} (hk : Wx d k = true) {es : List (Value × Value)} (hes : ∀ p ∈ es, Wx d p.1 = true) (h : ∀ p ∈ es, p.1 ≠ k) : mdel es k = es :=
  List.filter_eq_self.2 fun p hp => by
    have : ¬ keq k p.1 = true := fun hh => h p hp ((Ug hk (hes p hp)).1 hh).symm
    simpa using this
theorem MapRel.drop {es : List (Value × Value)} {ents : Array MapEntry} {clock : Nat} (M : MapRel ι es ents clock) {d : TypeDesc} {k : Value} (hk : Wx d k = true) (hes : ∀ p ∈ es, Wx d p.1 = true) (hhas : ∃ p ∈ es, p.1 = k) {j : Nat} {e : MapEntry} (hj : ents.toList[j]? = some e) (hek : e.key = k) :
    MapRel ι (mdel es k) (ents.eraseIdxIfInBounds j) clock := by
  obtain ⟨s1, s2, s3⟩ := Go.MapKept.stamped_erase M.stamped j
  have hjl : j < ents.toList.length := (List.getElem?_eq_some_iff.1 hj).1
  have hjs : j < ents.size := by simpa using hjl
  have hsub : (ents.eraseIdxIfInBounds j).toList = ents.toList.eraseIdx j := by
    unfold Array.eraseIdxIfInBounds
    rw [dif_pos hjs]
    simp
  refine ⟨fun p hp => ?_, fun x hx => ?_, ?_, ?_, s3, s2, s1⟩
  · obtain ⟨hp1, hp2⟩ := List.mem_filter.1 hp
    obtain ⟨x, hx, hxk, hr⟩ := M.fwd p hp1
    obtain ⟨i, hi⟩ := List.mem_iff_getElem?.1 hx
    refine ⟨x, ?_, hxk, hr⟩
    rw [hsub, List.mem_eraseIdx_iff_getElem?]
    refine ⟨i, fun he => ?_, hi⟩
    subst he
    rw [hj] at hi
    cases hi
    have : keq k p.1 = true := (Ug hk (hes p hp1)).2 (by rw [← hxk, hek])
    rw [this] at hp2
    cases hp2
  · rw [hsub, List.mem_eraseIdx_iff_getElem?] at hx
    obtain ⟨i, hij, hi⟩ := hx
    obtain ⟨p, hp, hpk⟩ := M.bwd x (List.mem_of_getElem? hi)
    refine ⟨p, List.mem_filter.2 ⟨hp, ?_⟩, hpk⟩
    have hne : ¬ keq k p.1 = true := fun hh => hij (by
      have h1 := (Ug hk (hes p hp)).1 hh
      have hi' : i < (ents.toList.map (·.key)).length := by rw [List.length_map]; exact (List.getElem?_eq_some_iff.1 hi).1
      exact (List.getElem?_inj hi' M.ckeys).1 (by rw [List.getElem?_map, List.getElem?_map, hi, hj]; simp [hek, h1, hpk]))
    simpa using hne
  · have h1 := mdel_len hk M.keys hes hhas
    have h2 : (ents.eraseIdxIfInBounds j).size = ents.size - 1 := by rw [← Array.length_toList, hsub, List.length_eraseIdx, if_pos hjl]; simp
    have := M.len
    omega
  · exact (List.filter_sublist.map _).nodup M.keys
theorem xdelete_sound (r : Rel P B ι H w) {ts : List TypeId} {ty : TypeId} {m m' k k' v : Value} {H' : AHeap} (hm : RV ι m m') (hk : RV ι k k') (h : QE P ts m k H = some (v, H')) :
    XR P B ι H w v H' ((Builtin.delete_ ts.toArray ty #[m', k']).run P w) := by
  unfold QE at h
  split at h
  · simp at h
  · rename_i t rest
    split at h
    · rename_i kt e hu
      split at h
      · rename_i d hd
        split at h
        · rename_i hko
          obtain rfl := keyOk_rel hko hk
          have hdu := keyDesc_inv hd
          have hck : ∀ b, (Instr.checkKey b 10000 kt k').run P w = .ok () w := fun b => Go.MapKept.run_checkKey hdu (isKey_of hko) b 9999
          split at h
          · simp at h
            obtain ⟨rfl, rfl⟩ := h
            cases hm
            refine XR.still r (v' := .tuple #[]) (Wc (n := 1) (by simp [gr])) ?_
            simp [Builtin.delete_, run_under hu, hck, Result.andThen]
          · rename_i b
            simp only [Option.map_eq_some_iff] at h
            obtain ⟨es, hes, h⟩ := h
            cases h
            rcases entries_inv r hm hes with ⟨h0, _, _⟩ | ⟨b', L, ents, clock, h0, rfl, hL, hH, hkeys, hheap, M, hB⟩
            · cases h0
            · cases h0
              have hget := Go.MapKept.run_getObj_map (P := P) hheap
              have hlt : L.cb < w.heap.size := (r.lt b L hL).2
              have done : ∀ (es' : List (Value × Value)) (ents' : Array MapEntry) (clock' : Nat), MapRel ι es' ents' clock' → Rel P B ι (H.set b (.map es')) { w with heap := w.heap.setIfInBounds L.cb (.map ents' clock') } ∧ Stp ι H w ι (H.set b (.map es')) { w with heap := w.heap.setIfInBounds L.cb (.map ents' clock') } := fun es' ents' clock' M' =>
                r.turn hL (by rw [hH]; rfl) _ ⟨hB, ents', clock', by simp [hlt], M'⟩ (by simp) (fun c hc => by simp [Array.getElem?_setIfInBounds_ne (Ne.symm hc)]) rfl rfl rfl
              rcases map_find hko hkeys M with ⟨_, g2, g3, g4⟩ | ⟨j, x, u, _, g2, g3, g4, _, g6⟩
              · have hf := Go.MapKept.run_findKey (w := w) hdu g2
                have hset := Go.MapKept.run_setObj_map (P := P) (.map ents clock) hheap
                rw [mdel_none hko hkeys g4]
                obtain ⟨d1, d2⟩ := done _ _ _ M
                refine ⟨ι, .tuple #[], _, ?_, Wc (n := 1) (by simp [gr]), d1, d2⟩
                simp [Builtin.delete_, Sem.run_bind, run_under hu, hget, hck, hf, hset, Result.andThen]
              · have hf := Go.MapKept.run_findKey (w := w) hdu g2
                have hset := Go.MapKept.run_setObj_map (P := P) (.map (ents.eraseIdxIfInBounds j) clock) hheap
                obtain ⟨d1, d2⟩ := done _ _ _ (M.drop hko hkeys g6 g3 g4)
                refine ⟨ι, .tuple #[], _, ?_, Wc (n := 1) (by simp [gr]), d1, d2⟩
                simp [Builtin.delete_, Sem.run_bind, run_under hu, hget, hck, hf, hset, Result.andThen]
          · simp at h
        · simp at h
      · simp at h
    · simp at h
theorem xmakeMap_sound (r : Rel P B ι H w) {t : TypeId} {q q' : Option Value} {v : Value} {H' : AHeap} (hq : RO ι q q') (h : WU P t q H = some (v, H')) : XR P B ι H w v H' ((Instr.makeMap t q').run P w) := by
  have hb : RB P B ι (w.alloc (.map #[] 0)) ⟨w.heap.size, 0, 0, 0⟩ (.map []) := ⟨r.base, #[], 0, push_heap _ _, by constructor <;> simp⟩
  obtain ⟨r', s'⟩ := r.push (.map #[] 0) (.map []) ⟨w.heap.size, 0, 0, 0⟩ rfl hb
  have hv : RV (up ι H.n ⟨w.heap.size, 0, 0, 0⟩) (.map (some H.n)) (.map (some w.heap.size)) := .map (b := H.n) (L := ⟨w.heap.size, 0, 0, 0⟩) (by simp [up])
  unfold WU at h
  split at h
  · rename_i kt e hu
    simp at h
    obtain ⟨rfl, rfl⟩ := h
    cases hq with
    | none => exact ⟨_, .map (some w.heap.size), w.alloc (.map #[] 0), by simp [Instr.makeMap], hv, r', s'⟩
  · rename_i kt e a b hu
    simp at h
    obtain ⟨rfl, rfl⟩ := h
    cases hq with
    | some hr =>
      cases hr
      exact ⟨_, .map (some w.heap.size), w.alloc (.map #[] 0), by simp [Instr.makeMap, run_under hu, asInt, asIntOf], hv, r', s'⟩
  · simp at h
theorem xlenM_sound (r : Rel P B ι H w) {ts : List TypeId} {ty : TypeId} {x x' v : Value} (hx : RV ι x x') (h : xlenM P ts x H = some v) :
    (Builtin.len_ ts.toArray ty #[x']).run P w = .ok v w ∧ RV ι v v := by
  unfold xlenM at h
  split at h
  · simp at h
  · rename_i t rest
    split at h
    · rename_i kt e hu
      split at h
      · cases hx
        simp at h
        subst h
        exact ⟨by simp [Builtin.len_, run_under hu], .int _ _⟩
      · rename_i b
        split at h
        · rename_i es hH
          simp at h
          subst h
          cases hx with
          | map hL =>
            rename_i L
            have hb := r.blk b L hL
            rw [hH] at hb
            obtain ⟨_, ents, clock, h1, h2⟩ := hb
            exact ⟨by simp [Builtin.len_, run_under hu, Go.MapKept.run_getObj_map (P := P) h1, h2.len], .int _ _⟩
        · simp at h
      · simp at h
    · exact xlen_sound hx h
def nextVal : Next → Option Value
  | .value v => some v
  | .skip => some undef
  | _ => none
theorem undef_rel : RV ι undef undef := Wc (n := 1) (by simp [gr, undef])
def GoodN (P : Program) (B : Nat) (ι : Emb) (H : AHeap) (w : World) (v : Value) (H' : AHeap) (r : Result Next) : Prop :=
  ∃ ι' nx v' w', r = .ok nx w' ∧ nextVal nx = some v' ∧ RV ι' v v' ∧ Rel P B ι' H' w' ∧ Stp ι H w ι' H' w'
theorem XR.next {v : Value} {H' : AHeap} {s : Sem Value} (h : XR P B ι H w v H' (s.run P w)) : GoodN P B ι H w v H' ((do pure (.value (← s)) : Sem Next).run P w) := by
  obtain ⟨ι', v', w', h1, h2, h3, h4⟩ := h
  exact ⟨ι', .value v', v', w', by simp [h1], rfl, h2, h3, h4⟩
theorem XR.next' (r : Rel P B ι H w) {v : Value} {s : Sem Value} (h : ∃ v', s.run P w = .ok v' w ∧ RV ι v v') : GoodN P B ι H w v H ((do pure (.value (← s)) : Sem Next).run P w) := by
  obtain ⟨v', h1, h2⟩ := h
  exact XR.next (XR.still r h2 h1)
theorem RVs.map {α : Type} {l : List α} {f g : α → Value} (h : ∀ x ∈ l, RV ι (f x) (g x)) : RVs ι (l.map f) (l.map g) := by
  induction l with
  | nil => exact .nil
  | cons a l ih => exact .cons (h a (by simp)) (ih fun x hx => h x (by simp [hx]))
theorem RP.map {l : List (Nat × Operand)} {f g : Operand → Value} (h : ∀ x, RV ι (f x) (g x)) : RP ι (l.map fun p => (p.1, f p.2)) (l.map fun p => (p.1, g p.2)) := by
  induction l with
  | nil => exact .nil
  | cons a l ih => exact .cons (h _) ih
theorem RO.map {o : Option Operand} {f g : Operand → Value} (h : ∀ x, RV ι (f x) (g x)) : RO ι (o.map f) (o.map g) := by
  cases o with
  | none => exact .none
  | some a => exact .some (h a)
theorem rvs_two {l' : List Value} {a b : Value} (h : RVs ι [a, b] l') : ∃ a' b', l' = [a', b'] ∧ RV ι a a' ∧ RV ι b b' := by
  cases h with
  | cons h1 t => cases t with
    | cons h2 t => cases t; exact ⟨_, _, rfl, h1, h2⟩
theorem rvs_one {l' : List Value} {a : Value} (h : RVs ι [a] l') : ∃ a', l' = [a'] ∧ RV ι a a' := by
  cases h with
  | cons h1 t => cases t; exact ⟨_, rfl, h1⟩
theorem rvs_gr : ∀ {l l' : List Value}, l.all (gr 9) = true → RVs ι l l' → l' = l
  | _, _, _, .nil => rfl
  | _, _, hg, .cons h t => by
    simp only [List.all_cons, Bool.and_eq_true] at hg
    rw [gr_eq hg.1 h, rvs_gr hg.2 t]
theorem YO {o : Option Value} {n : DNext} (h : bare o H = some n) : ∃ v, o = some v ∧ n = .val v H := by
  simp only [bare, Option.map_eq_some_iff] at h
  obtain ⟨v, h1, h2⟩ := h
  exact ⟨v, h1, h2.symm⟩
theorem XF {o : Option (Value × AHeap)} {n : DNext} (h : both o = some n) : ∃ v H', o = some (v, H') ∧ n = .val v H' := by
  simp only [both, Option.map_eq_some_iff] at h
  obtain ⟨v, h1, h2⟩ := h
  exact ⟨v.1, v.2, h1, h2.symm⟩
theorem QL {o : Option AHeap} {n : DNext} (h : quiet o = some n) : ∃ H', o = some H' ∧ n = .val undef H' := by
  simp only [quiet, Option.map_eq_some_iff] at h
  obtain ⟨v, h1, h2⟩ := h
  exact ⟨v, h1, h2.symm⟩
theorem xbuiltin_sound (r : Rel P B ι H w) {b : Builtin} {ts : Array TypeId} {ty : TypeId} {cs : Array Bool} {args args' : List Value} (ha : RVs ι args args') {v : Value} {H' : AHeap}
    (h : YN P b ts.toList args H = some (.val v H')) : GoodN P B ι H w v H' ((builtin b ts ty cs args'.toArray).run P w) := by
  unfold YN at h
  split at h
  · -- append
    obtain ⟨s', x', rfl, h1, h2⟩ := rvs_two ha
    obtain ⟨v0, H0, hh, e⟩ := XF h
    cases e
    clear h
    unfold Za at hh
    split at hh
    · rename_i t tx hts
      split at hh
      · rename_i e hu
        simp only [Option.bind_eq_some_iff] at hh
        obtain ⟨z, hz, hk⟩ := hh
        have hts' : ts = #[t, tx] := by rw [← Array.toArray_toList (xs := ts), hts]
        subst hts'
        exact XR.next (app_sound r hu hz h1 h2 hk)
      · simp at hh
    · simp at hh
  · obtain ⟨x', rfl, h1⟩ := rvs_one ha
    obtain ⟨v0, hh, e⟩ := YO h
    cases e
    obtain ⟨q1, q2⟩ := xlenM_sound (w := w) (ty := ty) r h1 hh
    rw [Array.toArray_toList] at q1
    exact XR.next' r ⟨v, q1, q2⟩
  · obtain ⟨d', s', rfl, h1, h2⟩ := rvs_two ha
    obtain ⟨v0, H0, hh, e⟩ := XF h
    cases e
    have := xcopy_sound (ty := ty) r h1 h2 hh
    rw [Array.toArray_toList] at this
    exact XR.next this
  · obtain ⟨x', rfl, h1⟩ := rvs_one ha
    obtain ⟨v0, H0, hh, e⟩ := XF h
    cases e
    have := xclear_sound (ty := ty) r h1 hh
    rw [Array.toArray_toList] at this
    exact XR.next this
  · obtain ⟨m', k', rfl, h1, h2⟩ := rvs_two ha
    obtain ⟨v0, H0, hh, e⟩ := XF h
    cases e
    have := xdelete_sound (ty := ty) r h1 h2 hh
    rw [Array.toArray_toList] at this
    exact XR.next this
  · obtain ⟨a', b', rfl, h1, h2⟩ := rvs_two ha
    cases h1
    cases h2
    simp at h
    obtain ⟨rfl, rfl⟩ := h
    refine XR.next' r ⟨_, ?_, .str _⟩
    simp [Builtin.min_, Builtin.min2, Op.stringOp, bl_toList, asBool]
  · obtain ⟨a', b', rfl, h1, h2⟩ := rvs_two ha
    cases h1
    cases h2
    simp at h
    obtain ⟨rfl, rfl⟩ := h
    refine XR.next' r ⟨_, ?_, .str _⟩
    simp [Builtin.max_, Builtin.max2, Op.stringOp, bl_toList, asBool]
  · split at h
    · rename_i hg
      obtain ⟨v0, hh, e⟩ := YO h
      cases e
      obtain ⟨h1, h2⟩ := Qb hh
      rw [rvs_gr hg ha]
      exact XR.next' r ⟨v, pv_run h1, Wc h2⟩
    · simp at h
  · split at h
    · rename_i hg
      obtain ⟨v0, hh, e⟩ := YO h
      cases e
      obtain ⟨h1, h2⟩ := Qb hh
      rw [rvs_gr hg ha]
      exact XR.next' r ⟨v, pv_run h1, Wc h2⟩
    · simp at h
  · obtain ⟨x', rfl, h1⟩ := rvs_one ha
    obtain ⟨v0, hh, e⟩ := YO h
    cases e
    obtain ⟨q1, q2⟩ := xcap_sound (w := w) (ty := ty) h1 hh
    rw [Array.toArray_toList] at q1
    exact XR.next' r ⟨v, q1, q2⟩
  · simp at h
theorem noRow_spec {n : String} (h : noRow n = true) : Extern.allGenericRows.lookup n = none ∧ Extern.allTypedRows.lookup n = none ∧ Extern.allRows.lookup n = none ∧ Extern.allNextRows.lookup n = none := by
  unfold noRow at h
  simpa [and_assoc] using h
theorem look_cmp : Extern.allGenericRows.lookup "internal/bytealg.abigen_runtime_cmpstring" = none ∧ Extern.allTypedRows.lookup "internal/bytealg.abigen_runtime_cmpstring" = none ∧
    Extern.allRows.lookup "internal/bytealg.abigen_runtime_cmpstring" = some Extern.BytealgCompare.compare ∧ Extern.allNextRows.lookup "internal/bytealg.abigen_runtime_cmpstring" = none := by
  refine ⟨?_, ?_, ?_, ?_⟩ <;> kernel_rfl
theorem look_ovl : Extern.allGenericRows.lookup "slices.overlaps" = none ∧ Extern.allTypedRows.lookup "slices.overlaps" = some Extern.SlicesOverlaps.overlaps ∧ Extern.allNextRows.lookup "slices.overlaps" = none := by
  refine ⟨?_, ?_, ?_⟩ <;> kernel_rfl
theorem look_empty : Extern.allNextRows.lookup "" = none := by kernel_rfl
theorem xext_sound {g : FuncId} {fn : Func} (hfn : P.funcs[g]? = some fn) (hname : fn.name ≠ "runtime.NumGoroutine") (hb : fn.body.isSome = false) (r : Rel P B ι H w) {args args' : List Value} (ha : RVs ι args args') {v : Value}
    (h : xext P fn args H = some v) : ∃ v', RV ι v v' ∧ (callFunc g args'.toArray).run P w = .ok (.value v') w := by
  have hbn : fn.body.isNone = true := by cases hq : fn.body <;> simp_all
  have hname' : (fn.name == "runtime.NumGoroutine") = false := by simpa using hname
  unfold xext at h
  split at h
  · rename_i a b
    split at h
    · rename_i hn
      simp at h
      subst h
      cases ha with | cons h1 t => cases t with | cons h2 t => cases t with | nil =>
        cases h1
        cases h2
        refine ⟨_, .int _ _, ?_⟩
        obtain ⟨l1, l2, l3, l4⟩ := look_cmp
        rw [run_callFunc_extern hfn hname' hbn (by unfold Extern.findNext; simp [hn.1, hn.2, l4, look_empty]) (e := Extern.BytealgCompare.compare) (by unfold Extern.find; simp [hn.1, l1, l2, l3]), Lib.run_compareString]
        rfl
    · simp at h
  · rename_i b o la cp b' o' lb cp'
    split at h
    · rename_i hn
      split at h
      · rename_i xs e y ys e' rw' t t' hf1 hf2 hp
        split at h
        · rename_i el hu
          split at h
          · rename_i hc
            obtain ⟨hne, rfl, htl, hsz, hoff⟩ := hc
            simp at h
            subst h
            cases ha with | cons h1 tl => cases tl with | cons h2 tl => cases tl with | nil =>
              obtain ⟨n1, n2, n3, n4⟩ := noRow_spec hn.2.1
              obtain ⟨l1, l2, l3⟩ := look_ovl
              refine ⟨_, .bool false, ?_⟩
              have hfind : Extern.find fn = some (Extern.SlicesOverlaps.overlaps fn.params fn.resultTypes) := by
                unfold Extern.find
                simp [hn.1, n1, n2, n3, l1, l2]
              rw [run_callFunc_extern hfn hname' hbn (by unfold Extern.findNext; simp [hn.1, n4, l3]) hfind]
              obtain ⟨size, hsize⟩ := Option.isSome_iff_exists.1 hsz
              have key : ∀ (L M : Loc) (la ca lb cb x : Nat), ι b = some L → ι b' = some M →
                  (Extern.SlicesOverlaps.overlaps fn.params fn.resultTypes #[.slice (some ⟨L.cb, L.base + o, none⟩) la ca, .slice (some ⟨M.cb, x, none⟩) lb cb]).run P w = .ok (.bool false) w := by
                intro L M la ca lb cb x hL hM
                have hb1 := r.blk b L hL
                rw [hf1] at hb1
                obtain ⟨cs, e1, fr, g1, g2, g3, g4, g5⟩ := hb1
                obtain ⟨gB, rfl, gsz, gfr⟩ := g5 rfl
                have hb2 := r.blk b' M hM
                rw [hf2] at hb2
                obtain ⟨cs2, e2, fr2, k1, k2, k3, k4, k5⟩ := hb2
                have hcne : L.cb ≠ M.cb := r.inj _ _ L M hL hM hne (by rw [hf1]; rfl) (by rw [hf2]; rfl)
                rw [show fn.params = #[t, t] from Array.ext' hp]
                have hov := Lib.run_overlaps_apart (P := P) w t 0 el hu size (fun w => Ut hsize w) ⟨L.cb, L.base + o, none⟩ ⟨M.cb, x, none⟩ la ca lb cb hcne e1 e2 cs.size cs2.size
                  (by simp [World.shape?, g1]) (by simp [World.shape?, k1]) (by simp at k3; omega)
                  (by
                    simp only [World.frozen?, g1]
                    have := gfr (L.base + o) (by omega)
                    simpa using this)
                  (by
                    simp only [World.frozen?, g1]
                    have := gfr cs.size (by omega)
                    simpa using this)
                exact hov
              have k1 := h1
              have k2 := h2
              cases h1 with
              | sle hL _ =>
                cases h2 with
                | sle hM _ => rw [key _ _ _ _ _ _ _ hL hM]; rfl
                | sli hM _ _ _ => rw [key _ _ _ _ _ _ _ hL hM]; rfl
                | sl0 _ => exact absurd rfl hn.2.2.2
              | sli hL _ _ _ =>
                cases h2 with
                | sle hM _ => rw [key _ _ _ _ _ _ _ hL hM]; rfl
                | sli hM _ _ _ => rw [key _ _ _ _ _ _ _ hL hM]; rfl
                | sl0 _ => exact absurd rfl hn.2.2.2
              | sl0 _ => exact absurd rfl hn.2.2.1
          · simp at h
        · simp at h
      · simp at h
    · simp at h
  · simp at h
theorem xcall_enter {f f' : Value} {args args' : List Value} (hf : RV ι f f') (ha : RVs ι args args') {g : FuncId} {as : List Value} (h : xcall P f args H = some (.enter g as)) :
    ∃ as', RVs ι as as' ∧ (do let d ← Deferred.ofValue f' args'.toArray; invoke d.target d.args : Sem Next).run P w = .ok (.enter g as'.toArray) w := by
  unfold xcall at h
  split at h
  · rename_i g x c
    cases hf with
    | func h1 h2 h3 h4 =>
      rename_i x' c'
      split at h
      · rename_i fn hfn
        split at h
        · simp at h
        · rename_i hnm
          split at h
          · rename_i hb
            simp at h
            obtain ⟨rfl, rfl⟩ := h
            refine ⟨x'.toList ++ args' ++ c'.toList, by simpa using ((RVs.of_arr h1 h2).append ha).append (RVs.of_arr h3 h4), ?_⟩
            have hnone : fn.body.isNone = false := by
              cases hq : fn.body <;> simp_all
            have hname : (fn.name == "runtime.NumGoroutine") = false := by simpa using hnm
            have harr : x' ++ (args'.toArray ++ c') = (x'.toList ++ args' ++ c'.toList).toArray := by apply Array.ext'; simp
            simp only [Deferred.ofValue, Sem.run_bind, Sem.run_pure, Result.andThen_ok, invoke, callFunc, run_program, hfn, hname, hnone, Bool.false_eq_true, if_false, Array.append_assoc, harr]
          · unfold bare at h; simp at h
      · simp at h
  · simp at h
theorem xcall_val {f f' : Value} {args args' : List Value} (r : Rel P B ι H w) (hf : RV ι f f') (ha : RVs ι args args') {v : Value} {H' : AHeap} (h : xcall P f args H = some (.val v H')) :
    H' = H ∧ ∃ v', RV ι v v' ∧ (do let d ← Deferred.ofValue f' args'.toArray; invoke d.target d.args : Sem Next).run P w = .ok (.value v') w := by
  unfold xcall at h
  split at h
  · rename_i g x c
    cases hf with
    | func h1 h2 h3 h4 =>
      rename_i x' c'
      split at h
      · rename_i fn hfn
        split at h
        · simp at h
        · rename_i hnm
          split at h
          · simp at h
          · rename_i hb
            unfold bare at h
            simp only [Option.map_eq_some_iff] at h
            obtain ⟨u, hu, hv⟩ := h
            cases hv
            refine ⟨rfl, ?_⟩
            have hargs : RVs ι (x.toList ++ args ++ c.toList) (x'.toList ++ args' ++ c'.toList) := ((RVs.of_arr h1 h2).append ha).append (RVs.of_arr h3 h4)
            obtain ⟨v', k1, k2⟩ := xext_sound hfn hnm (by simpa using hb) r hargs hu
            refine ⟨v', k1, ?_⟩
            have harr : x' ++ (args'.toArray ++ c') = (x'.toList ++ args' ++ c'.toList).toArray := by apply Array.ext'; simp
            simp only [Deferred.ofValue, Sem.run_bind, Sem.run_pure, Result.andThen_ok, invoke, Array.append_assoc, harr]
            exact k2
      · simp at h
  · simp at h
theorem dOp_val (r : Rel P B ι H w) {ρ ρ' : Operand → Value} (hρ : ∀ x, RV ι (ρ x) (ρ' x)) {o : Oper} {v : Value} {H' : AHeap} (h : dOp P ρ o.op H = some (.val v H')) :
    GoodN P B ι H w v H' ((execOp ρ' o).run P w) := by
  unfold execOp
  cases ho : o.op with
  | move x => rw [ho] at h; simp [dOp] at h; obtain ⟨rfl, rfl⟩ := h; exact ⟨ι, _, _, w, rfl, rfl, hρ x, r, Stp.refl _ _ _ r.dom⟩
  | assign x => rw [ho] at h; simp [dOp] at h; obtain ⟨rfl, rfl⟩ := h; exact ⟨ι, _, _, w, rfl, rfl, hρ x, r, Stp.refl _ _ _ r.dom⟩
  | pick c a b =>
    rw [ho] at h
    simp only [dOp] at h
    split at h
    · rename_i t hc
      have := hρ c
      rw [hc] at this
      simp at h
      obtain ⟨rfl, rfl⟩ := h
      generalize hq : ρ' c = q at this
      cases this
      refine ⟨ι, .value (if t then ρ' a else ρ' b), _, w, by simp [hq, asBool], rfl, ?_, r, Stp.refl _ _ _ r.dom⟩
      cases t
      · exact hρ b
      · exact hρ a
    · simp at h
  | alloc t => rw [ho] at h; obtain ⟨v0, H0, hh, e⟩ := XF h; cases e; exact XR.next (xalloc_sound r hh)
  | box t x => rw [ho] at h; obtain ⟨v0, H0, hh, e⟩ := XF h; cases e; exact XR.next (newv_sound r (hρ x) hh)
  | build t parts =>
    rw [ho] at h
    obtain ⟨v0, hh, e⟩ := YO h
    cases e
    obtain ⟨v', h1, h2⟩ := xbuild_sound (w := w) (RP.map hρ) hh
    have harr : (parts.map fun (p : Nat × Operand) => (p.1, ρ' p.2)) = (parts.toList.map fun p => (p.1, ρ' p.2)).toArray := by apply Array.ext'; simp
    rw [← harr] at h1
    exact XR.next' r ⟨v', h1, h2⟩
  | buildSlice t len parts =>
    rw [ho] at h
    obtain ⟨v0, H0, hh, e⟩ := XF h
    cases e
    have := xbuildSlice_sound r (RP.map hρ) hh
    have harr : (parts.map fun (p : Nat × Operand) => (p.1, ρ' p.2)) = (parts.toList.map fun p => (p.1, ρ' p.2)).toArray := by apply Array.ext'; simp
    rw [← harr] at this
    exact XR.next this
  | load t a => rw [ho] at h; obtain ⟨v0, hh, e⟩ := YO h; cases e; exact XR.next' r (xload_sound r (hρ a) hh)
  | store t a x =>
    rw [ho] at h
    obtain ⟨H0, hh, e⟩ := QL h
    cases e
    obtain ⟨w', h1, h2, h3⟩ := xstore_sound r (hρ a) (hρ x) hh
    exact ⟨ι, .skip, undef, w', by simp [h1], rfl, undef_rel, h2, h3⟩
  | nilCheck x =>
    rw [ho] at h
    obtain ⟨v0, hh, e⟩ := YO h
    cases e
    clear h
    have hx := hρ x
    unfold Yz at hh
    split at hh
    · rename_i a hx'
      rw [hx'] at hx
      simp at hh
      subst hh
      generalize hq : ρ' x = q at hx
      cases hx with
      | ptr hb => exact ⟨ι, .value _, _, w, by simp [hq], rfl, .ptr hb, r, Stp.refl _ _ _ r.dom⟩
    · rename_i f c1 c2 hx'
      rw [hx'] at hx
      simp at hh
      subst hh
      generalize hq : ρ' x = q at hx
      cases hx with
      | func h1 h2 h3 h4 => exact ⟨ι, .value _, _, w, by simp [hq], rfl, .func h1 h2 h3 h4, r, Stp.refl _ _ _ r.dom⟩
    · simp at hh
  | binOp op t x y yt => rw [ho] at h; obtain ⟨v0, hh, e⟩ := YO h; cases e; exact XR.next' r (xbin_sound (hρ x) (hρ y) hh)
  | unOp op t x => rw [ho] at h; obtain ⟨v0, hh, e⟩ := YO h; cases e; exact XR.next' r (xun_sound (hρ x) hh)
  | convert src dst x => rw [ho] at h; obtain ⟨v0, H0, hh, e⟩ := XF h; cases e; exact XR.next (xconv_sound r (hρ x) hh)
  | makeInterface t x =>
    rw [ho] at h
    simp only [dOp] at h
    cases hu : P.underlying t with
    | none => simp [hu] at h
    | some d =>
      have key : (∀ ms, d ≠ .interface ms) → GoodN P B ι H w (.iface t (ρ x)) H ((do pure (Next.value (← Instr.makeInterface t (ρ' x))) : Sem Next).run P w) := by
        intro hd
        refine XR.next' r ⟨.iface t (ρ' x), ?_, .iface (hρ x)⟩
        cases d <;> first | (exact absurd rfl (hd _)) | simp [Instr.makeInterface, run_under hu]
      cases d <;> simp [hu] at h <;> (obtain ⟨rfl, rfl⟩ := h; exact key (by simp))
  | makeFunc fn x c =>
    rw [ho] at h
    cases fn with
    | func g =>
      simp [dOp] at h
      obtain ⟨rfl, rfl⟩ := h
      refine XR.next' r ⟨.func (.func g) (x.map ρ') (c.map ρ'), by simp [Instr.makeFunc], .func (by simp) (fun i a b ha hb => ?_) (by simp) (fun i a b ha hb => ?_)⟩
      · simp only [Array.getElem?_map, Option.map_eq_some_iff] at ha hb
        obtain ⟨p, hp, rfl⟩ := ha
        obtain ⟨q, hq, rfl⟩ := hb
        rw [hp] at hq
        cases hq
        exact hρ p
      · simp only [Array.getElem?_map, Option.map_eq_some_iff] at ha hb
        obtain ⟨p, hp, rfl⟩ := ha
        obtain ⟨q, hq, rfl⟩ := hb
        rw [hp] at hq
        cases hq
        exact hρ p
    | _ => simp [dOp] at h
  | makeSlice t l c => rw [ho] at h; obtain ⟨v0, H0, hh, e⟩ := XF h; cases e; exact XR.next (xmakeSlice_sound r (hρ l) (hρ c) hh)
  | slice t x lo hi mx => rw [ho] at h; obtain ⟨v0, hh, e⟩ := YO h; cases e; exact XR.next' r (xslice_sound r (hρ x) (RO.map hρ) (RO.map hρ) (RO.map hρ) hh)
  | fieldAddr t x f => rw [ho] at h; obtain ⟨v0, hh, e⟩ := YO h; cases e; exact XR.next' r (xfieldAddr_sound (hρ x) hh)
  | field t x f => rw [ho] at h; obtain ⟨v0, hh, e⟩ := YO h; cases e; exact XR.next' r (xfield_sound (hρ x) hh)
  | indexAddr t x i => rw [ho] at h; obtain ⟨v0, hh, e⟩ := YO h; cases e; exact XR.next' r (xindexAddr_sound (hρ x) (hρ i) hh)
  | index t x i => rw [ho] at h; obtain ⟨v0, hh, e⟩ := YO h; cases e; exact XR.next' r (xindex_sound (hρ x) (hρ i) hh)
  | extract x i => rw [ho] at h; obtain ⟨v0, hh, e⟩ := YO h; cases e; exact XR.next' r (xextract_sound (hρ x) hh)
  | makeMap t q => rw [ho] at h; obtain ⟨v0, H0, hh, e⟩ := XF h; cases e; exact XR.next (xmakeMap_sound r (RO.map hρ) hh)
  | lookup t x i ok => rw [ho] at h; obtain ⟨v0, hh, e⟩ := YO h; cases e; exact XR.next' r (xlookup_sound r (hρ x) (hρ i) hh)
  | mapUpdate t m k x =>
    rw [ho] at h
    obtain ⟨H0, hh, e⟩ := QL h
    cases e
    obtain ⟨w', h1, h2, h3⟩ := ZK r (hρ m) (hρ k) (hρ x) hh
    exact ⟨ι, .skip, undef, w', by simp [h1], rfl, undef_rel, h2, h3⟩
  | insert t m k x =>
    rw [ho] at h
    obtain ⟨H0, hh, e⟩ := QL h
    cases e
    obtain ⟨w', h1, h2, h3⟩ := ZK r (hρ m) (hρ k) (hρ x) hh
    exact ⟨ι, .skip, undef, w', by simp [h1], rfl, undef_rel, h2, h3⟩
  | call c =>
    rw [ho] at h
    simp only [dOp] at h
    have hargs : RVs ι (c.args.toList.map ρ) (c.args.toList.map ρ') := RVs.map fun x _ => hρ x
    have harr : c.args.map ρ' = (c.args.toList.map ρ').toArray := by apply Array.ext'; simp
    split at h
    · rename_i b hcal
      have := fun cs => xbuiltin_sound (ty := o.type) (cs := cs) r hargs h
      simp only [resolve, hcal, Sem.run_bind, Sem.run_pure, Result.andThen_ok, invoke, harr]
      exact this _
    · rename_i f hcal
      obtain ⟨rfl, v', h1, h2⟩ := xcall_val r (hρ f) hargs h
      refine ⟨ι, .value v', v', w, ?_, rfl, h1, r, Stp.refl _ _ _ r.dom⟩
      simpa [resolve, hcal, harr] using h2
    · simp at h
  | _ => rw [ho] at h; simp [dOp] at h
theorem dOp_enter {ρ ρ' : Operand → Value} (hρ : ∀ x, RV ι (ρ x) (ρ' x)) {o : Oper} {f : FuncId} {args : List Value} (h : dOp P ρ o.op H = some (.enter f args)) :
    ∃ args', RVs ι args args' ∧ (execOp ρ' o).run P w = .ok (.enter f args'.toArray) w := by
  unfold execOp
  cases ho : o.op with
  | call c =>
    rw [ho] at h
    simp only [dOp] at h
    have hargs : RVs ι (c.args.toList.map ρ) (c.args.toList.map ρ') := RVs.map fun x _ => hρ x
    have harr : c.args.map ρ' = (c.args.toList.map ρ').toArray := by apply Array.ext'; simp
    split at h
    · rename_i b hcal
      exfalso
      unfold YN at h
      split at h <;> first
        | (simp [both, bare] at h; done)
        | (split at h <;> simp [bare] at h; done)
        | simp at h
    · rename_i f' hcal
      obtain ⟨as', h1, h2⟩ := xcall_enter (w := w) (hρ f') hargs h
      refine ⟨as', h1, ?_⟩
      simpa [resolve, hcal, harr] using h2
    · simp at h
  | pick c a b => rw [ho] at h; simp only [dOp] at h; split at h <;> simp at h
  | makeFunc fn x c => rw [ho] at h; cases fn <;> simp [dOp] at h
  | makeInterface t x => rw [ho] at h; simp only [dOp] at h; split at h <;> simp at h
  | _ => rw [ho] at h; simp [dOp, bare, both, quiet] at h
end Go.Proofs.YtmiinbhnfojnbaaDoor.Eng

namespace Go.Proofs.YtmiinbhnfojnbaaDoor.Eng
open Go
abbrev Env := List (Nat × Value)
def get (T : Env) (t : Nat) : Value := (T.lookup t).getD top
def put (T : Env) (dst : Option Nat) (v : Value) : Env := match dst with | some d => (d, v) :: T | none => T
def clr (keep : List Nat) (T : Env) : Env := keep.map fun t => (t, get T t)
def ev (T : Env) : Operand → Value
  | .tmp t => get T t
  | .const v => if gr 9 v then v else top
  | .global _ => top
  | .func f => .func (.func f) #[] #[]
def UY (N : Nat) : Option Nat → Bool
  | some d => decide (d < N)
  | none => true
abbrev Res := Option (Value × AHeap)
abbrev Yc := FuncId → List Value → AHeap → Res
def goes (ops : Array Oper) (o : Oper) (T : Env) : Option Bool :=
  match o.guard with
  | none => some true
  | some (j, want) =>
    match (ops[j]?).bind (·.dst) with
    | none => none
    | some d => match get T d with
      | .bool b => some (b == want)
      | .tuple vs => if vs.size = 0 then some false else none
      | _ => none
def UG (P : Program) (N : Nat) (call : Yc) (ops : Array Oper) (o : Oper) (T : Env) (H : AHeap) : Option (Value × AHeap) :=
  if UY N o.dst then
    match goes ops o T with
    | some true => match dOp P (ev T) o.op H with
      | some (.val v H') => some (v, H')
      | some (.enter f args) => call f args H
      | none => none
    | some false => some (undef, H)
    | none => none
  else none
def ZS (P : Program) (N : Nat) (call : Yc) (ops : Array Oper) : List Oper → Env → AHeap → Option (Env × AHeap)
  | [], T, H => some (T, H)
  | o :: rest, T, H => (UG P N call ops o T H).bind fun r => ZS P N call ops rest (put T o.dst r.1) r.2
inductive DCode where
  | skip
  | region (id : Nat) (ops : Array Oper) (draw : Bool)
  | seq (a b : DCode)
  | cond (keep : List Nat) (c : Operand) (thn els : DCode)
  | block (keep : List Nat) (id : Nat) (body : DCode)
  | loop (keep : List Nat) (body : DCode)
  | exit (id : Nat)
  | ret (keep : List Nat)
  | bad (c : Code)
def erase : DCode → Code
  | .skip => .skip
  | .region id ops draw => .region id ops draw
  | .seq a b => .seq (erase a) (erase b)
  | .cond _ c x y => .cond c (erase x) (erase y)
  | .block _ id b => .block id (erase b)
  | .loop _ b => .loop (erase b)
  | .exit id => .exit id
  | .ret _ => .ret
  | .bad c => c
def note : Code → List (List Nat) → DCode × List (List Nat)
  | .skip, h => (.skip, h)
  | .region id ops draw, h => (.region id ops draw, h)
  | .seq a b, h => let x := note a h; let y := note b x.2; (.seq x.1 y.1, y.2)
  | .cond c a b, h => let x := note a h.tail; let y := note b x.2; (.cond (h.headD []) c x.1 y.1, y.2)
  | .block id b, h => let x := note b h.tail; (.block (h.headD []) id x.1, x.2)
  | .loop b, h => let x := note b h.tail; (.loop (h.headD []) x.1, x.2)
  | .exit id, h => (.exit id, h)
  | .ret, h => (.ret (h.headD []), h.tail)
  | c, h => (.bad c, h)
theorem VI : ∀ (c : Code) (h : List (List Nat)), erase (note c h).1 = c
  | .skip, _ => rfl
  | .region _ _ _, _ => rfl
  | .seq a b, h => by simp [note, erase, VI a, VI b]
  | .cond c a b, h => by simp [note, erase, VI a, VI b]
  | .block id b, h => by simp [note, erase, VI b]
  | .loop b, h => by simp [note, erase, VI b]
  | .exit id, _ => rfl
  | .scope _, _ => rfl
  | .ret, _ => rfl
  | .rangeFunc _ _ _ _, _ => rfl
  | .label _, _ => rfl
  | .goto _, _ => rfl
  | .refuse _, _ => rfl
inductive DExit where
  | normal
  | exit (id : Nat)
  | ret
abbrev VC := Option (DExit × Env × AHeap)
def WJ (body : Env → AHeap → VC) (keep : List Nat) : Nat → Env → AHeap → VC
  | 0, _, _ => none
  | n + 1, T, H => (body (clr keep T) H).bind fun r =>
    match r.1 with
    | .normal => WJ body keep n r.2.1 r.2.2
    | e => some (e, r.2.1, r.2.2)
def XU : Op → Bool
  | .move _ | .assign _ | .pick _ _ _ | .alloc _ | .box _ _ | .build _ _ | .buildSlice _ _ _ | .load _ _ | .nilCheck _ | .binOp _ _ _ _ _ | .unOp _ _ _ | .convert _ _ _
  | .makeInterface _ _ | .makeFunc _ _ _ | .makeSlice _ _ _ | .makeMap _ _ | .slice _ _ _ _ _ | .fieldAddr _ _ _ | .field _ _ _ | .indexAddr _ _ _ | .index _ _ _ | .extract _ _ | .lookup _ _ _ _ => false
  | .call c => match c.callee with
    | .builtin .len | .builtin .min | .builtin .max => false
    | _ => true
  | _ => true
def Yk : Value → Option Nat
  | .pointer (some a) => some a.block
  | .slice (some a) _ _ => some a.block
  | .map (some b) => some b
  | _ => none
def rdBlk (P : Program) (ρ : Operand → Value) : Op → Option Nat
  | .load _ a => Yk (ρ a)
  | .slice _ x _ _ _ => Yk (ρ x)
  | .convert _ _ x => Yk (ρ x)
  | .lookup _ m _ _ => Yk (ρ m)
  | .call c => (match c.callee, c.args.toList, c.argTypes.toList with
    | .builtin .len, [x], t :: _ => (match P.underlying t with | some (.map _ _) => Yk (ρ x) | _ => none)
    | _, _, _ => none)
  | _ => none
def looks (ops : Array Oper) (o : Oper) : List Nat :=
  (o.op.operands.toList.filterMap fun | .tmp t => some t | _ => none) ++
  (match o.guard with
   | some (g, _) => ((ops[g]?).bind (·.dst)).toList
   | none => [])
def WO : List Oper → List Nat → List Nat
  | [], acc => acc
  | o :: r, acc => WO r (acc ++ [o.after.toList.foldl (fun s e => if Region.binds .any e then s ||| 2 ^ e.on ||| acc.getD e.on 0 else s) 0])
def bit (m : List Nat) (i j : Nat) : Bool := (m.getD j 0).testBit i
def Vg (m : List Nat) (i j : Nat) : Bool := !bit m i j && !bit m j i
def drawOk (ops : Array Oper) : Bool :=
  let m := WO ops.toList []
  let l := ops.toList.zipIdx
  (l.all fun x => x.1.after.toList.all fun e => !Region.binds .any e || decide (e.on < x.2)) &&
  (l.all fun x => l.all fun y => x.2 == y.2 || !Vg m x.2 y.2 ||
    (match y.1.dst with
     | none => true
     | some t => !(looks ops x.1).contains t && x.1.dst != some t)) &&
  (l.all fun x => l.all fun y => x.2 == y.2 || !Vg m x.2 y.2 || !XU x.1.op || !XU y.1.op)
def clash (ops : Array Oper) : List (Nat × Nat) :=
  let m := WO ops.toList []
  let l := ops.toList.zipIdx
  l.flatMap fun x => if XU x.1.op then l.filterMap fun y => if !XU y.1.op && Vg m x.2 y.2 then some (x.2, y.2) else none else []
def UI (P : Program) (N : Nat) (call : Yc) (ops : Array Oper) : List Oper → Env → AHeap → Option (List (Env × AHeap))
  | [], T, H => some [(T, H)]
  | o :: rest, T, H => (UG P N call ops o (clr (looks ops o) T) H).bind fun r => (UI P N call ops rest (put T o.dst r.1) r.2).map fun l => (T, H) :: l
def okPair (P : Program) (ops : Array Oper) (tr : List (Env × AHeap)) (p : Nat × Nat) : Bool :=
  match tr[p.1]?, tr[p.1 + 1]?, tr[p.2]?, tr[p.2 + 1]?, ops[p.2]? with
  | some a, some a', some b, some b', some o =>
    (match goes ops o (clr (looks ops o) b.1) with
     | some false => true
     | _ => match rdBlk P (ev (clr (looks ops o) b.1)) o.op with
       | some k => decide (a.2.n ≤ k) || a'.2.ver k == a.2.ver k
       | none => true) &&
    (decide (a.2.n ≤ b.2.n) || decide (b'.2.n ≤ b.2.n) || a'.2.ver b.2.n == a.2.ver b.2.n)
  | _, _, _, _, _ => false
def QX (P : Program) (N : Nat) (call : Yc) (ops : Array Oper) (T : Env) (H : AHeap) : Option (Env × AHeap) :=
  if drawOk ops then (UI P N call ops ops.toList T H).bind fun tr => if (clash ops).all (okPair P ops tr) then tr.getLast? else none
  else none
def Y5 (P : Program) (N : Nat) (call : Yc) (n : Nat) : DCode → Env → AHeap → VC
  | .skip, T, H => some (.normal, T, H)
  | .region _ ops draw, T, H => (if draw then QX P N call ops T H else ZS P N call ops ops.toList T H).map fun r => (.normal, r.1, r.2)
  | .seq a b, T, H => (Y5 P N call n a T H).bind fun r =>
    match r.1 with
    | .normal => Y5 P N call n b r.2.1 r.2.2
    | e => some (e, r.2.1, r.2.2)
  | .cond keep c x y, T, H =>
    match ev T c with
    | .bool b => (if b then Y5 P N call n x T H else Y5 P N call n y T H).map fun r => match r.1 with | .normal => (.normal, clr keep r.2.1, r.2.2) | e => (e, r.2.1, r.2.2)
    | _ => none
  | .block keep id b, T, H => (Y5 P N call n b T H).map fun r =>
    match r.1 with
    | .normal => (.normal, clr keep r.2.1, r.2.2)
    | .exit j => if j = id then (.normal, clr keep r.2.1, r.2.2) else (.exit j, r.2.1, r.2.2)
    | .ret => (.ret, r.2.1, r.2.2)
  | .loop keep b, T, H => WJ (Y5 P N call n b) keep n T H
  | .exit id, T, H => some (.exit id, T, H)
  | .ret keep, T, H => some (.ret, clr keep T, H)
  | .bad _, _, _ => none
def resVal (P : Program) (H : AHeap) (T : Env) : ResultVar → Option Value
  | .tmp t => some (get T t)
  | .cell a t => UH P t (get T a) H
def Wt (P : Program) (H : AHeap) (T : Env) : List ResultVar → Option (List Value)
  | [] => some []
  | r :: rs => (resVal P H T r).bind fun v => (Wt P H T rs).map fun l => v :: l
def XY : List Value → Value
  | [v] => v
  | l => .tuple l.toArray
def Ur : Nat → List Value → Env
  | _, [] => []
  | i, v :: l => (i, v) :: Ur (i + 1) l
abbrev ZO := FuncId → Option (List Value → AHeap → Res)
abbrev WE := FuncId → List (List Nat)
def Qk (P : Program) (hints : WE) (call : Yc) (n : Nat) (f : FuncId) (args : List Value) (H : AHeap) : Res :=
  match P.funcs[f]? with
  | some fn => match fn.body with
    | some c =>
      (Y5 P fn.ntmps call n (note c (hints f)).1 (Ur 0 args) H).bind fun r =>
        match r.1 with
        | .exit _ => none
        | _ => (Wt P r.2.2 r.2.1 fn.results.toList).map fun l => (XY l, r.2.2)
    | none => none
  | none => none
def still (H H' : AHeap) : Bool := (List.range H.n).all fun b => H'.ver b == H.ver b
def tidy (H : AHeap) (r : Value × AHeap) : Value × AHeap := if gr 9 r.1 && still H r.2 then (r.1, H) else r
def UW (P : Program) (prims : ZO) (hints : WE) : Nat → Yc
  | 0, _, _, _ => none
  | n + 1, f, args, H => match prims f with
    | some p => p args H
    | none => (Qk P hints (UW P prims hints n) n f args H).map (tidy H)
end Go.Proofs.YtmiinbhnfojnbaaDoor.Eng

namespace Go.Proofs.YtmiinbhnfojnbaaDoor.Eng
open Go
inductive AD (n : Nat) : Value → Prop
  | unk : AD n (.chan none)
  | bool (b : Bool) : AD n (.bool b)
  | int (k : IntKind) (m : Int) : AD n (.int k m)
  | flo (k : FloatKind) (m : Nat) : AD n (.float k m)
  | str (s : ByteArray) : AD n (.string s)
  | nilp : AD n (.pointer none)
  | ptr {b o : Nat} (h : b < n) : AD n (.pointer (some ⟨b, o, none⟩))
  | nils : AD n (.slice none 0 0)
  | sl {b o l c : Nat} {s : Option Nat} (h : b < n) : AD n (.slice (some ⟨b, o, s⟩) l c)
  | nilm : AD n (.map none)
  | map {b : Nat} (h : b < n) : AD n (.map (some b))
  | func {f : FuncId} {x c : Array Value} (h1 : ∀ v, v ∈ x.toList → AD n v) (h2 : ∀ v, v ∈ c.toList → AD n v) : AD n (.func (.func f) x c)
  | nilfn : AD n .nilFunc
  | nili : AD n .nilIface
  | iface {t : TypeId} {v : Value} (h : AD n v) : AD n (.iface t v)
  | agg {x : Array Value} (h : ∀ v, v ∈ x.toList → AD n v) : AD n (.agg x)
  | tup {x : Array Value} (h : ∀ v, v ∈ x.toList → AD n v) : AD n (.tuple x)
theorem AD.mono {n m : Nat} (h : n ≤ m) {v : Value} (a : AD n v) : AD m v := by
  induction a with
  | unk => exact .unk
  | bool b => exact .bool b
  | int k m => exact .int k m
  | flo k m => exact .flo k m
  | str s => exact .str s
  | nilp => exact .nilp
  | ptr h' => exact .ptr (by omega)
  | nils => exact .nils
  | sl h' => exact .sl (by omega)
  | nilm => exact .nilm
  | map h' => exact .map (by omega)
  | func _ _ i1 i2 => exact .func i1 i2
  | nilfn => exact .nilfn
  | nili => exact .nili
  | iface _ ih => exact .iface ih
  | agg _ ih => exact .agg ih
  | tup _ ih => exact .tup ih
theorem AD.of_gr : ∀ {k n : Nat} {v : Value}, gr k v = true → AD n v
  | 0, _, _, h => by simp [gr] at h
  | k + 1, n, v, hg => by
    have ih : ∀ {v : Value}, gr k v = true → AD n v := fun a => AD.of_gr a
    have arr : ∀ {x : Array Value}, x.toList.all (gr k) = true → ∀ v, v ∈ x.toList → AD n v := fun hx v hv => ih (List.all_eq_true.1 hx v hv)
    cases v with
    | bool b => exact .bool b
    | int k m => exact .int k m
    | float k m => exact .flo k m
    | complex => simp [gr] at hg
    | string s => exact .str s
    | pointer a => cases a with
      | none => exact .nilp
      | some a => simp [gr] at hg
    | slice a l c =>
      cases a with
      | none =>
        cases l with
        | zero => cases c with
          | zero => exact .nils
          | succ c => simp [gr] at hg
        | succ l => simp [gr] at hg
      | some a => simp [gr] at hg
    | map r => cases r with
      | none => exact .nilm
      | some r => simp [gr] at hg
    | chan => simp [gr] at hg
    | func fn x c =>
      cases fn with
      | func f =>
        simp only [gr, Bool.and_eq_true] at hg
        exact .func (arr hg.1) (arr hg.2)
      | _ => simp [gr] at hg
    | nilFunc => exact .nilfn
    | iface t v => simp only [gr] at hg; exact .iface (ih hg)
    | nilIface => exact .nili
    | agg cs => simp only [gr] at hg; exact .agg (arr hg)
    | tuple cs => simp only [gr] at hg; exact .tup (arr hg)
def low (n : Nat) (ι : Emb) : Emb := fun b => if b < n then ι b else none
theorem Wq {n : Nat} {ι : Emb} {b : Nat} {L : Loc} : low n ι b = some L ↔ b < n ∧ ι b = some L := by
  unfold low
  split
  · simp [*]
  · simp; intro h; omega
theorem AD.arr {n : Nat} {x : Array Value} (h : ∀ v, v ∈ x.toList → AD n v) {i : Nat} {v : Value} (hv : x[i]? = some v) : AD n v := h v (by simpa using Array.mem_of_getElem? hv)
theorem RV.low {ι : Emb} {n : Nat} {v v' : Value} (h : RV ι v v') : AD n v → RV (low n ι) v v' := by
  induction h with
  | unk c => intro _; exact .unk c
  | bool b => intro _; exact .bool b
  | int k n => intro _; exact .int k n
  | flo k n => intro _; exact .flo k n
  | str s => intro _; exact .str s
  | nilp => intro _; exact .nilp
  | ptr h => intro a; cases a with | ptr hb => exact .ptr (Wq.2 ⟨hb, h⟩)
  | nils => intro _; exact .nils
  | sle h hn => intro a; cases a with | sl hb => exact .sle (Wq.2 ⟨hb, h⟩) hn
  | sli h hc hn ht => intro a; cases a with | sl hb => exact .sli (Wq.2 ⟨hb, h⟩) hc hn ht
  | sl0 hk => intro _; exact .sl0 hk
  | nilm => intro _; exact .nilm
  | map h => intro a; cases a with | map hb => exact .map (Wq.2 ⟨hb, h⟩)
  | func h1 _ h3 _ i2 i4 => intro a; cases a with | func a1 a2 => exact .func h1 (fun i v v' hv hv' => i2 i v v' hv hv' (AD.arr a1 hv)) h3 (fun i v v' hv hv' => i4 i v v' hv hv' (AD.arr a2 hv))
  | nilfn => intro _; exact .nilfn
  | nili => intro _; exact .nili
  | iface _ ih => intro a; cases a with | iface h => exact .iface (ih h)
  | agg h1 _ i2 => intro a; cases a with | agg a1 => exact .agg h1 (fun i v v' hv hv' => i2 i v v' hv hv' (AD.arr a1 hv))
  | tup h1 _ i2 => intro a; cases a with | tup a1 => exact .tup h1 (fun i v v' hv hv' => i2 i v v' hv hv' (AD.arr a1 hv))
def ADs (n : Nat) (l : List Value) : Prop := ∀ v, v ∈ l → AD n v
theorem ADs.mono {n m : Nat} (h : n ≤ m) {l : List Value} (a : ADs n l) : ADs m l := fun v hv => (a v hv).mono h
theorem ADs.nil {n : Nat} : ADs n [] := fun v h => by cases h
theorem ADs.cons {n : Nat} {v : Value} {l : List Value} (h : AD n v) (t : ADs n l) : ADs n (v :: l) := fun u hu => by
  rcases List.mem_cons.1 hu with rfl | hu
  · exact h
  · exact t u hu
theorem ADs.append {n : Nat} {a b : List Value} (h : ADs n a) (k : ADs n b) : ADs n (a ++ b) := fun u hu => (List.mem_append.1 hu).elim (h u) (k u)
theorem ADs.take {n : Nat} {a : List Value} (h : ADs n a) (m : Nat) : ADs n (a.take m) := fun u hu => h u (List.mem_of_mem_take hu)
theorem ADs.drop {n : Nat} {a : List Value} (h : ADs n a) (m : Nat) : ADs n (a.drop m) := fun u hu => h u (List.mem_of_mem_drop hu)
theorem ADs.get {n : Nat} {a : List Value} (h : ADs n a) {i : Nat} {v : Value} (hv : a[i]? = some v) : AD n v := h v (List.mem_of_getElem? hv)
theorem ADs.spl {n : Nat} : ∀ {vs : List Value}, ADs n vs → ∀ {xs : List Value} {o : Nat}, ADs n xs → ADs n (spl xs o vs)
  | [], _, _, _, h => h
  | v :: r, hv, xs, o, h => by
    refine ADs.spl (vs := r) (fun u hu => hv u (by simp [hu])) (fun u hu => ?_)
    rcases List.mem_or_eq_of_mem_set hu with hu | rfl
    · exact h u hu
    · exact hv _ (by simp)
theorem ADs.zeros {m : Nat} {z : List Value} (h : ADs m z) : ∀ n, ADs m (zeros z n)
  | 0 => ADs.nil
  | n + 1 => h.append (ADs.zeros h n)
theorem ADs.bytes {n : Nat} (l : List UInt8) : ADs n (l.map Xc) := fun v hv => by
  obtain ⟨b, _, rfl⟩ := List.mem_map.1 hv
  exact .int _ _
theorem AD.flat {n : Nat} {v : Value} (h : AD n v) {l : List Value} (hf : flat v = some l) : ADs n l := by
  cases h <;> simp [Eng.flat] at hf <;> subst hf
  all_goals first
    | (rename_i h; exact h)
    | (refine ADs.cons ?_ ADs.nil; constructor <;> assumption)
structure Cl (H : AHeap) : Prop where
  cells : ∀ b xs e rw, H.f b = .cells xs e rw → ADs H.n xs
  maps : ∀ b es, H.f b = .map es → ∀ p, p ∈ es → AD H.n p.2
  ver : ∀ b, H.ver b < H.clk
theorem Cl.push {H : AHeap} (h : Cl H) {k : Blk} (hc : ∀ xs e rw, k = .cells xs e rw → ADs (H.n + 1) xs) (hm : ∀ es, k = .map es → ∀ p, p ∈ es → AD (H.n + 1) p.2) : Cl (H.push k) := by
  constructor
  · intro b xs e rw hb
    by_cases h1 : b = H.n
    · subst h1; rw [AHeap.push_new] at hb; exact hc xs e rw hb
    · rw [AHeap.push_old _ _ h1] at hb; exact (h.cells b xs e rw hb).mono (by simp)
  · intro b es hb p hp
    by_cases h1 : b = H.n
    · subst h1; rw [AHeap.push_new] at hb; exact hm es hb p hp
    · rw [AHeap.push_old _ _ h1] at hb; exact (h.maps b es hb p hp).mono (by simp)
  · intro b
    have h0 := h.ver b
    by_cases hb : b = H.n
    · subst hb; simp; omega
    · rw [AHeap.push_ver _ _ hb]; simpa using h0
theorem Cl.row {H : AHeap} (h : Cl H) {xs : List Value} {e : TypeId} {rw : Bool} (hx : ADs (H.n + 1) xs) : Cl (H.push (.cells xs e rw)) :=
  h.push (fun _ _ _ hk => by cases hk; exact hx) (fun _ hk => by cases hk)
theorem Cl.set {H : AHeap} (h : Cl H) (b : Nat) {k : Blk} (hc : ∀ xs e rw, k = .cells xs e rw → ADs H.n xs) (hm : ∀ es, k = .map es → ∀ p, p ∈ es → AD H.n p.2) : Cl (H.set b k) := by
  constructor
  · intro c xs e rw hb
    by_cases h1 : c = b
    · subst h1; rw [AHeap.set_same] at hb; exact hc xs e rw hb
    · rw [AHeap.set_other _ _ h1] at hb; exact h.cells c xs e rw hb
  · intro c es hb p hp
    by_cases h1 : c = b
    · subst h1; rw [AHeap.set_same] at hb; exact hm es hb p hp
    · rw [AHeap.set_other _ _ h1] at hb; exact h.maps c es hb p hp
  · intro c
    have := h.ver c
    by_cases h1 : c = b
    · subst h1; simp
    · rw [AHeap.set_ver _ _ h1]; simp; omega
theorem Cl.cut {H : AHeap} (h : Cl H) {b o n : Nat} {l : List Value} (hl : Eng.cut H b o n = some l) : ADs H.n l := by
  obtain ⟨xs, e, rw, hH, _, rfl⟩ := cut_inv hl
  exact ((h.cells b xs e rw hH).drop o).take n
theorem Cl.stL {H : AHeap} (h : Cl H) {b o : Nat} {vs : List Value} (hv : ADs H.n vs) {H' : AHeap} (hs : Eng.stL H b o vs = some H') : Cl H' ∧ H'.n = H.n ∧ VO H H' := by
  obtain ⟨xs, e, hH, _, _, rfl⟩ := stL_inv hs
  exact ⟨h.set b (fun _ _ _ hk => by cases hk; exact ADs.spl hv (h.cells b xs e true hH)) (fun _ hk => by cases hk), rfl, VO.set _ _ _ (by simp [hH, Xf])⟩
variable {P : Program} {H H' : AHeap}
def OkV (H H' : AHeap) (v : Value) : Prop := Cl H' ∧ AD H'.n v ∧ VO H H'
theorem xload_ad (h : Cl H) {t : TypeId} {a v : Value} (hl : UH P t a H = some v) : AD H.n v := by
  unfold UH at hl
  split at hl
  · unfold ldN at hl
    split at hl
    · simp only [Option.map_eq_some_iff] at hl
      obtain ⟨l, hl, rfl⟩ := hl
      exact .agg (h.cut hl)
    · simp at hl
  · unfold ld1 at hl
    split at hl
    · split at hl
      · rename_i hH; exact (h.cells _ _ _ _ hH).get hl
      · simp at hl
    · simp at hl
  · simp at hl
theorem xstore_ad (h : Cl H) {t : TypeId} {a v : Value} (hv : AD H.n v) (hs : xstore P t a v H = some H') : Cl H' ∧ H'.n = H.n ∧ VO H H' := by
  unfold xstore at hs
  split at hs
  · unfold stN at hs
    split at hs
    · split at hs
      · cases hv with | agg hx => exact h.stL hx hs
      · simp at hs
    · simp at hs
  · split at hs
    · unfold st1 at hs
      split at hs
      · split at hs
        · rename_i hH
          split at hs
          · split at hs
            · simp at hs
              subst hs
              refine ⟨h.set _ (fun _ _ _ hk => ?_) (fun _ hk => by cases hk), rfl, VO.set _ _ _ (by simp [hH, Xf])⟩
              cases hk
              intro u hu
              rcases List.mem_or_eq_of_mem_set hu with hu | rfl
              · exact h.cells _ _ _ true hH u hu
              · exact hv
            · simp at hs
          · simp at hs
        · simp at hs
      · simp at hs
    · simp at hs
  · simp at hs
theorem newv_ad (h : Cl H) {t : TypeId} {v a : Value} (hv : AD H.n v) (hs : XT t v H = some (a, H')) : OkV H H' a := by
  unfold XT at hs
  simp only [Option.map_eq_some_iff] at hs
  obtain ⟨l, hl, hs⟩ := hs
  cases hs
  exact ⟨h.row ((hv.flat hl).mono (by omega)), .ptr (by simp), VO.push _ _⟩
theorem fillX_ad {n : Nat} {place : Nat → Option (Nat × Nat)} : ∀ {parts : List (Nat × Value)} {x out : Array Value}, (∀ p, p ∈ parts → AD n p.2) → (∀ v, v ∈ x.toList → AD n v) → fillX place x parts = some out → ∀ v, v ∈ out.toList → AD n v
  | [], x, out, _, hx, h => by simp [fillX] at h; subst h; exact hx
  | (i, v) :: rest, x, out, hp, hx, h => by
    simp only [fillX] at h
    split at h
    · rename_i off size l hpl hf
      split at h
      · simp at h
      · refine fillX_ad (fun p hp' => hp p (by simp [hp'])) ?_ h
        have hl : ADs n l := (hp (i, v) (by simp)).flat hf
        have key : ∀ (l : List Value) (k : Nat) (x : Array Value), ADs n l → (∀ v, v ∈ x.toList → AD n v) → ∀ v, v ∈ ((l.zipIdx k).foldl (fun cs (p : Value × Nat) => cs.setIfInBounds (off + p.2) p.1) x).toList → AD n v := by
          intro l
          induction l with
          | nil => intro k x _ hx; simpa using hx
          | cons a l ih =>
            intro k x hl hx
            simp only [List.zipIdx_cons, List.foldl_cons]
            refine ih (k + 1) _ (fun u hu => hl u (by simp [hu])) (fun u hu => ?_)
            rw [Array.toList_setIfInBounds] at hu
            rcases List.mem_or_eq_of_mem_set hu with hu | rfl
            · exact hx u hu
            · exact hl _ (by simp)
        exact key l 0 x hl hx
    · simp at h
theorem xpart_ad {n : Nat} {t : TypeId} {x v : Value} {off : Nat} (hx : AD n x) (h : xpart P t x off = some v) : AD n v := by
  unfold xpart at h
  split at h
  · unfold prtN at h
    split at h
    · simp at h
      subst h
      cases hx with
      | agg hx =>
        refine .agg fun u hu => hx u ?_
        rw [Array.toList_extract] at hu
        exact List.mem_of_mem_drop (List.mem_of_mem_take hu)
    · simp at h
  · unfold prt1 at h
    split at h
    · cases hx with | agg hx => exact AD.arr hx h
    · simp at h
  · simp at h
end Go.Proofs.YtmiinbhnfojnbaaDoor.Eng
