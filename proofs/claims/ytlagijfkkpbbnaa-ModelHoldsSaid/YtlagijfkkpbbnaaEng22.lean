/-
  The engine, part 22: laws of single operations, of the combinators and of the abstract heap, as rewrite rules for reckoning with symbols.
  Conditions: none. By an AI agent.
-/
import Derived.Test.YtlagijfkkpbbnaaEng21
import Derived.Attr
namespace Go.Proofs.Ytlagijfkkpbbnaa.Eng
open Go

variable {P : Program} {H H' : AHeap} {k : Value → AHeap → Res} {kk : K}

/-! ### What comes later is looked at later -/
@[congr] theorem bareK_congr {x x' : Option Value} {H : AHeap} {k : Value → AHeap → Res} (h : Unit → x = x') : bareK x H k = bareK x' H k := by rw [h ()]
@[congr] theorem bothK_congr {x x' : Option (Value × AHeap)} {k : Value → AHeap → Res} (h : Unit → x = x') : bothK x k = bothK x' k := by rw [h ()]
@[congr] theorem quietK_congr {x x' : Option AHeap} {k : Value → AHeap → Res} (h : Unit → x = x') : quietK x k = quietK x' k := by rw [h ()]
@[congr] theorem enterK_congr {C : CallF} {g : FuncId} {a a' : List Value} {H : AHeap} {k : Value → AHeap → Res} (h : Unit → a = a') : enterK C g a H k = enterK C g a' H k := by rw [h ()]
@[congr] theorem callK_congr {C : CallF} {g g' : Value} {a a' : List Value} {H : AHeap} {k : Value → AHeap → Res} (h0 : Unit → g = g') (h : Unit → a = a') : callK P C g a H k = callK P C g' a' H k := by rw [h (), h0 ()]
@[congr] theorem nextK_congr {C : CallF} {x x' : Option DNext} {H : AHeap} {k : Value → AHeap → Res} (h : Unit → x = x') : nextK C H x k = nextK C H x' k := by rw [h ()]
@[congr] theorem pickK_congr {c c' a b : Value} {k : Value → Res} (h : Unit → c = c') : pickK c a b k = pickK c' a b k := by rw [h ()]
@[congr] theorem guardK_congr {g g' : Value} {w : Bool} {op : (Value → AHeap → Res) → Res} {H : AHeap} {k : Value → AHeap → Res} (h : Unit → g = g') : guardK g w op H k = guardK g' w op H k := by rw [h ()]
@[congr] theorem condL_congr {c c' : Value} {x y : K → Res} {k : K} (h : Unit → c = c') : condL c x y k = condL c' x y k := by rw [h ()]
@[congr] theorem checkK_congr {b b' : Bool} {r : Res} (h : Unit → b = b') : checkK b r = checkK b' r := by rw [h ()]

@[go_sem] theorem bareK_some' {v : Value} : bareK (some v) H k = k v H := _root_.id rfl
@[go_sem] theorem bothK_some' {v : Value} : bothK (some (v, H)) k = k v H := _root_.id rfl
@[go_sem] theorem quietK_some' : quietK (some H) k = k undef H := _root_.id rfl
@[go_sem] theorem checkK_true' {r : Res} : checkK true r = r := _root_.id rfl
@[go_sem] theorem pickK_t {a b : Value} {k : Value → Res} : pickK (.bool true) a b k = k a := _root_.id rfl
@[go_sem] theorem pickK_f {a b : Value} {k : Value → Res} : pickK (.bool false) a b k = k b := _root_.id rfl
@[go_sem] theorem condL_t {x y : K → Res} : condL (.bool true) x y kk = x kk := _root_.id rfl
@[go_sem] theorem condL_f {x y : K → Res} : condL (.bool false) x y kk = y kk := _root_.id rfl
@[go_sem ↓] theorem shareL_go {f : K → Res} : shareL f kk = f kk := _root_.id rfl
@[go_sem] theorem guardK_tt {op : (Value → AHeap → Res) → Res} : guardK (.bool true) true op H k = op k := _root_.id rfl
@[go_sem] theorem guardK_ff {op : (Value → AHeap → Res) → Res} : guardK (.bool false) false op H k = op k := _root_.id rfl
@[go_sem] theorem guardK_tf {op : (Value → AHeap → Res) → Res} : guardK (.bool true) false op H k = k undef H := _root_.id rfl
@[go_sem] theorem guardK_ft {op : (Value → AHeap → Res) → Res} : guardK (.bool false) true op H k = k undef H := _root_.id rfl
@[go_sem] theorem guardK_un {op : (Value → AHeap → Res) → Res} {b : Bool} : guardK (.tuple #[]) b op H k = k undef H := _root_.id rfl
@[go_sem] theorem undef_eq : undef = .tuple #[] := _root_.id rfl
attribute [go_sem] stdL_g stdL_c stdL_s
@[go_sem ↓] theorem afterK_n {keep : List Nat} {T : Env} : afterK keep kk .normal T H = kk .normal (clr keep T) H := _root_.id rfl
@[go_sem ↓] theorem afterK_e {keep : List Nat} {T : Env} {i : Nat} : afterK keep kk (.exit i) T H = kk (.exit i) T H := _root_.id rfl
@[go_sem ↓] theorem afterK_r {keep : List Nat} {T : Env} : afterK keep kk .ret T H = kk .ret T H := _root_.id rfl
@[go_sem ↓] theorem blkK_n {keep : List Nat} {id : Nat} {T : Env} : blkK keep id kk .normal T H = kk .normal (clr keep T) H := _root_.id rfl
@[go_sem ↓] theorem blkK_e {keep : List Nat} {T : Env} {i id : Nat} : blkK keep id kk (.exit i) T H = if i = id then kk .normal (clr keep T) H else kk (.exit i) T H := _root_.id rfl
@[go_sem ↓] theorem blkK_r {keep : List Nat} {id : Nat} {T : Env} : blkK keep id kk .ret T H = kk .ret T H := _root_.id rfl
@[go_sem ↓] theorem seqK_n {f : Env → AHeap → Res} {T : Env} : seqK f kk .normal T H = f T H := _root_.id rfl
@[go_sem ↓] theorem seqK_e {f : Env → AHeap → Res} {T : Env} {i : Nat} : seqK f kk (.exit i) T H = kk (.exit i) T H := _root_.id rfl
@[go_sem ↓] theorem seqK_r {f : Env → AHeap → Res} {T : Env} : seqK f kk .ret T H = kk .ret T H := _root_.id rfl
@[go_sem] theorem nextK_v {call : CallF} {H0 : AHeap} {v : Value} : nextK call H0 (some (.val v H)) k = k v H := _root_.id rfl
@[go_sem] theorem nextK_bare {call : CallF} {H0 : AHeap} {v : Value} : nextK call H0 (bare (some v) H) k = k v H := _root_.id rfl
@[go_sem] theorem nextK_both {call : CallF} {H0 : AHeap} {v : Value} : nextK call H0 (both (some (v, H))) k = k v H := _root_.id rfl
@[go_sem] theorem nextK_quiet {call : CallF} {H0 : AHeap} : nextK call H0 (quiet (some H)) k = k undef H := _root_.id rfl
attribute [go_sem ↓] bareK_some' bothK_some' quietK_some' checkK_true' pickK_t pickK_f condL_t condL_f guardK_tt guardK_ff guardK_tf guardK_ft guardK_un nextK_v nextK_bare nextK_both nextK_quiet
theorem enterK_eq {call : CallF} {g : FuncId} {args : List Value} {v : Value} (h : call g args H = some (v, H')) : enterK call g args H k = k v H' := by simp [enterK, h]

/-! ### Temporaries, results -/
@[go_sem] theorem get_c {a : Nat} {v : Value} {T : Env} {t : Nat} : get ((a, v) :: T) t = if t = a then v else get T t := get_cons a v T t
@[go_sem ↓] theorem get_hd {v : Value} {T : Env} {t : Nat} : get ((t, v) :: T) t = v := by rw [get_cons]; simp
@[go_sem] theorem clr_nil {T : Env} : clr [] T = [] := _root_.id rfl
@[go_sem] theorem clr_cons {t : Nat} {l : List Nat} {T : Env} : clr (t :: l) T = (t, get T t) :: clr l T := _root_.id rfl
@[go_sem ↓] theorem endK_ret {rs : List ResultVar} {T : Env} : endK P rs .ret T H = resValsK P H T rs fun l => some (resultOf l, H) := _root_.id rfl
@[go_sem ↓] theorem endK_normal {rs : List ResultVar} {T : Env} : endK P rs .normal T H = resValsK P H T rs fun l => some (resultOf l, H) := _root_.id rfl
@[go_sem] theorem resValsK_nil {T : Env} {k : List Value → Res} : resValsK P H T [] k = k [] := _root_.id rfl
@[go_sem] theorem resValsK_tmp {T : Env} {t : Nat} {rs : List ResultVar} {k : List Value → Res} : resValsK P H T (.tmp t :: rs) k = resValsK P H T rs fun l => k (get T t :: l) := _root_.id rfl
@[go_sem] theorem resValsK_cell {T : Env} {a : Nat} {t : TypeId} {rs : List ResultVar} {k : List Value → Res} : resValsK P H T (.cell a t :: rs) k = bareK (xload P t (get T a) H) H fun v _ => resValsK P H T rs fun l => k (v :: l) := _root_.id rfl
@[go_sem] theorem resultOf_0 : resultOf [] = .tuple #[] := _root_.id rfl
@[go_sem] theorem resultOf_1 {v : Value} : resultOf [v] = v := _root_.id rfl
@[go_sem] theorem resultOf_2 {v w : Value} {l : List Value} : resultOf (v :: w :: l) = .tuple (v :: w :: l).toArray := _root_.id rfl

/-! ### Numbers -/
attribute [go_sem] xbin_lss xbin_leq
@[go_sem] theorem not_b {b : Bool} : xun P .not (.bool b) = some (.bool !b) := _root_.id rfl
@[go_sem] theorem int_eq {t : TypeId} {ox oy : Operand} {q : IntKind} {a b : Int} : xbin P .eql t ox oy (.int q a) (.int q b) = some (.bool (decide (a = b))) := xbin_eql
@[go_sem] theorem int_ne {t : TypeId} {ox oy : Operand} {q : IntKind} {a b : Int} : xbin P .neq t ox oy (.int q a) (.int q b) = some (.bool (!decide (a = b))) := xbin_neq
@[go_sem] theorem int_gt {t : TypeId} {ox oy : Operand} {q : IntKind} {a b : Int} : xbin P .gtr t ox oy (.int q a) (.int q b) = some (.bool (decide (b < a))) := xbin_gtr
@[go_sem] theorem int_ge {t : TypeId} {ox oy : Operand} {q : IntKind} {a b : Int} : xbin P .geq t ox oy (.int q a) (.int q b) = some (.bool (decide (b ≤ a))) := xbin_geq
attribute [go_sem] ne_eq gt_iff_lt ge_iff_le Bool.or_self Bool.false_eq_true Int.cast_ofNat_Int decide_true decide_false Bool.not_true Bool.not_false Int.natCast_zero Int.natCast_one Int.natCast_add not_true_eq_false not_false_eq_true Bool.or_true Bool.or_false Bool.and_false Bool.true_or Bool.false_or Bool.false_and
theorem wrap_i64 {n : Int} (h : -9223372036854775808 ≤ n ∧ n < 9223372036854775808) : IntKind.wrap .i64 n = n := wrap64 h.1 h.2
@[go_sem] theorem add_i64 {t : TypeId} {ox oy : Operand} {a b : Int} (h : -9223372036854775808 ≤ a + b ∧ a + b < 9223372036854775808) : xbin P .add t ox oy (.int .i64 a) (.int .i64 b) = some (.int .i64 (a + b)) := by
  rw [xbin_add, wrap_i64 h]
@[go_sem] theorem sub_i64 {t : TypeId} {ox oy : Operand} {a b : Int} (h : -9223372036854775808 ≤ a - b ∧ a - b < 9223372036854775808) : xbin P .sub t ox oy (.int .i64 a) (.int .i64 b) = some (.int .i64 (a - b)) := by
  rw [xbin_sub, wrap_i64 h]
@[go_sem] theorem mul_i64 {t : TypeId} {ox oy : Operand} {a b : Int} (h : -9223372036854775808 ≤ a * b ∧ a * b < 9223372036854775808) : xbin P .mul t ox oy (.int .i64 a) (.int .i64 b) = some (.int .i64 (a * b)) := by
  rw [xbin_mul, wrap_i64 h]
theorem pvg_some {s : Sem Value} {v : Value} (h : pv P s = some v) (g : gr 9 v = true) : pvg P s = some v := by unfold pvg; rw [h]; simp only [g, if_true]
@[go_sem] theorem min_int {ts : List TypeId} {q : IntKind} {a b : Int} : xbuiltin P .min ts [.int q a, .int q b] H = some (.val (.int q (min a b)) H) := by
  have h : pvg P (Builtin.min_ #[] 0 #[.int q a, .int q b]) = some (.int q (if b < a then b else a)) := pvg_some rfl rfl
  have e : xbuiltin P .min ts [.int q a, .int q b] H = bare (pvg P (Builtin.min_ #[] 0 #[.int q a, .int q b])) H := rfl
  rw [e, h, show min a b = if b < a then b else a by rw [Int.min_def]; split <;> split <;> omega]
  rfl
@[go_sem] theorem max_int {ts : List TypeId} {q : IntKind} {a b : Int} : xbuiltin P .max ts [.int q a, .int q b] H = some (.val (.int q (max a b)) H) := by
  have h : pvg P (Builtin.max_ #[] 0 #[.int q a, .int q b]) = some (.int q (if a < b then b else a)) := pvg_some rfl rfl
  have e : xbuiltin P .max ts [.int q a, .int q b] H = bare (pvg P (Builtin.max_ #[] 0 #[.int q a, .int q b])) H := rfl
  rw [e, h, show max a b = if a < b then b else a by rw [Int.max_def]; split <;> split <;> omega]
  rfl
theorem xconv_int {s t : TypeId} {a b : IntKind} {n : Int} (hs : P.underlying s = some (.int a)) (ht : P.underlying t = some (.int b)) : xconv P s t (.int a n) H = some (.int b (b.wrap n), H) := by
  have h : pv P (convert s t (.int a n)) = some (.int b (b.wrap n)) := by
    simp [convert, underlying, program, pv, Bind.bind, Sem.bind, Pure.pure, hs, ht, Conv.intToInt]
  have g : pvg P (convert s t (.int a n)) = some (.int b (b.wrap n)) := pvg_some h rfl
  unfold xconv
  rw [hs, ht]
  simp only [g, Option.map_some]
  rfl

/-! ### Strings -/
attribute [go_sem] bl_mk mk_bl
@[go_sem] theorem str_eq {t : TypeId} {ox oy : Operand} {a b : ByteArray} : xbin P .eql t ox oy (.string a) (.string b) = some (.bool (decide (bl a = bl b))) := by
  have h : xbin P .eql t ox oy (.string a) (.string b) = some (.bool (bl a == bl b)) := rfl
  rw [h, Bool.beq_eq_decide_eq]
@[go_sem] theorem str_ne {t : TypeId} {ox oy : Operand} {a b : ByteArray} : xbin P .neq t ox oy (.string a) (.string b) = some (.bool (!decide (bl a = bl b))) := by
  have h : xbin P .neq t ox oy (.string a) (.string b) = some (.bool !(bl a == bl b)) := rfl
  rw [h, Bool.beq_eq_decide_eq]
@[go_sem] theorem str_lt {t : TypeId} {ox oy : Operand} {a b : ByteArray} : xbin P .lss t ox oy (.string a) (.string b) = some (.bool (Op.bytesLess (bl a) (bl b))) := _root_.id rfl
@[go_sem] theorem str_le {t : TypeId} {ox oy : Operand} {a b : ByteArray} : xbin P .leq t ox oy (.string a) (.string b) = some (.bool (Op.bytesLess (bl a) (bl b) || bl a == bl b)) := _root_.id rfl
@[go_sem] theorem str_gt {t : TypeId} {ox oy : Operand} {a b : ByteArray} : xbin P .gtr t ox oy (.string a) (.string b) = some (.bool !(Op.bytesLess (bl a) (bl b) || bl a == bl b)) := _root_.id rfl
@[go_sem] theorem str_ge {t : TypeId} {ox oy : Operand} {a b : ByteArray} : xbin P .geq t ox oy (.string a) (.string b) = some (.bool !(Op.bytesLess (bl a) (bl b))) := _root_.id rfl

/-! ### Lengths -/
def lenT : Value → Option Value | .string s => some (goInt (bl s).length) | _ => none
def lenS : Value → Option Value | .slice _ n _ => some (goInt n) | _ => none
@[go_sem] theorem lenT_s {s : ByteArray} : lenT (.string s) = some (.int .i64 (bl s).length) := _root_.id rfl
@[go_sem] theorem lenS_s {a : Option Addr} {n c : Nat} : lenS (.slice a n c) = some (.int .i64 n) := _root_.id rfl

/-! ### Pointers, structs -/
@[go_sem] theorem fad_s {b o f : Nat} : fad f (.pointer (some ⟨b, o, none⟩)) = some (.pointer (some ⟨b, o + f, none⟩)) := _root_.id rfl
@[go_sem] theorem nilCheck_s {a : Addr} : xnilCheck (.pointer (some a)) = some (.pointer (some a)) := _root_.id rfl
@[go_sem] theorem nilCheck_f {f : FuncId} {x c : Array Value} : xnilCheck (.func (.func f) x c) = some (.func (.func f) x c) := _root_.id rfl
@[go_sem] theorem prt1_s {o : Nat} {l : List Value} : prt1 o (.agg ⟨l⟩) = l[o]? := by simp [prt1]
@[go_sem] theorem prtN_s {n o : Nat} {l : List Value} : prtN n o (.agg ⟨l⟩) = some (.agg ⟨(l.drop o).take n⟩) := by simp [prtN, List.extract_toArray]
@[go_sem] theorem extract_s {i : Nat} {l : List Value} : xextract (.tuple ⟨l⟩) i = l[i]? := by simp [xextract]
theorem nil_ptr_eq {t : TypeId} {ox oy : Operand} {d : TypeId} {a : Addr} (h : P.underlying t = some (.pointer d)) : xbin P .eql t ox oy (.pointer (some a)) (.pointer none) = some (.bool false) := by
  have g : nilTest P t (.pointer (some a)) (.pointer none) = some false := by unfold nilTest; rw [h]
  show (nilTest P t (.pointer (some a)) (.pointer none)).map Value.bool = _
  rw [g]; rfl
theorem nil_ptr_ne {t : TypeId} {ox oy : Operand} {d : TypeId} {a : Addr} (h : P.underlying t = some (.pointer d)) : xbin P .neq t ox oy (.pointer (some a)) (.pointer none) = some (.bool true) := by
  have g : nilTest P t (.pointer (some a)) (.pointer none) = some false := by unfold nilTest; rw [h]
  show (nilTest P t (.pointer (some a)) (.pointer none)).map (fun b => Value.bool !b) = _
  rw [g]; rfl

/-! ### The heap -/
@[go_sem] theorem push_n' {k : Blk} : (H.push k).n = H.n + 1 := _root_.id rfl
@[go_sem] theorem set_n' {b : Nat} {k : Blk} : (H.set b k).n = H.n := _root_.id rfl
@[go_sem] theorem push_f_eq {b : Nat} {k : Blk} (h : b = H.n) : (H.push k).f b = k := by subst h; simp
@[go_sem] theorem push_f_ne {b : Nat} {k : Blk} (h : b ≠ H.n) : (H.push k).f b = H.f b := H.push_old k h
@[go_sem] theorem set_f_eq {b : Nat} {k : Blk} : (H.set b k).f b = k := by simp
@[go_sem] theorem set_f_ne {b c : Nat} {k : Blk} (h : c ≠ b) : (H.set b k).f c = H.f c := H.set_other k h
theorem push_v_ne {b : Nat} {k : Blk} (h : b ≠ H.n) : (H.push k).ver b = H.ver b := H.push_ver k h
theorem set_v_eq {b : Nat} {k : Blk} : (H.set b k).ver b = H.clk := by simp
theorem set_v_ne {b c : Nat} {k : Blk} (h : c ≠ b) : (H.set b k).ver c = H.ver c := H.set_ver k h

def cellB : Blk → Nat → Option Value | .cells xs _ _, o => xs[o]? | _, _ => none
def cutB : Blk → Nat → Nat → Option (List Value) | .cells xs _ _, o, n => if o + n ≤ xs.length then some ((xs.drop o).take n) else none | _, _, _ => none
def wr1 : Blk → Nat → Value → Option Blk | .cells xs e true, o, v => if o < xs.length then (if one v then some (.cells (xs.set o v) e true) else none) else none | _, _, _ => none
def wrL : Blk → Nat → List Value → Option Blk | .cells xs e true, o, vs => if o + vs.length ≤ xs.length then (if vs.all one then some (.cells (spl xs o vs) e true) else none) else none | _, _, _ => none
def setB (H : AHeap) (b : Nat) (k : Option Blk) : Option AHeap := k.map (H.set b)

@[go_sem] theorem ld1_b {b o : Nat} : ld1 H (.pointer (some ⟨b, o, none⟩)) = cellB (H.f b) o := by
  unfold ld1 cellB; simp only; cases H.f b <;> rfl
theorem cut_b {b o n : Nat} : cut H b o n = cutB (H.f b) o n := by unfold cut cutB; cases H.f b <;> rfl
@[go_sem] theorem ldN_b {b o n : Nat} : ldN n H (.pointer (some ⟨b, o, none⟩)) = (cutB (H.f b) o n).map fun l => .agg ⟨l⟩ := by
  unfold ldN; simp only [cut_b]
@[go_sem] theorem st1_b {b o : Nat} {v : Value} : st1 H (.pointer (some ⟨b, o, none⟩)) v = setB H b (wr1 (H.f b) o v) := by
  simp only [st1, setB, wr1]
  generalize H.f b = q
  cases q with
  | cells xs e rw =>
    cases rw with
    | true => by_cases h1 : o < xs.length <;> by_cases h2 : one v = true <;> simp [h1, h2]
    | false => rfl
  | _ => rfl
theorem stL_b {b o : Nat} {vs : List Value} : stL H b o vs = setB H b (wrL (H.f b) o vs) := by
  simp only [stL, setB, wrL]
  generalize H.f b = q
  cases q with
  | cells xs e rw =>
    cases rw with
    | true => by_cases h1 : o + vs.length ≤ xs.length <;> by_cases h2 : vs.all one = true <;> simp only [h1, h2, if_true, if_false] <;> rfl
    | false => rfl
  | _ => rfl
@[go_sem] theorem stN_b {b o n : Nat} {l : List Value} (h : l.length = n) : stN n H (.pointer (some ⟨b, o, none⟩)) (.agg ⟨l⟩) = setB H b (wrL (H.f b) o l) := by
  unfold stN
  simp only [List.size_toArray, h, if_true, stL_b]
@[go_sem] theorem cellB_c {xs : List Value} {e : TypeId} {rw : Bool} {o : Nat} : cellB (.cells xs e rw) o = xs[o]? := _root_.id rfl
@[go_sem] theorem cutB_c {xs : List Value} {e : TypeId} {rw : Bool} {o n : Nat} (h : o + n ≤ xs.length) : cutB (.cells xs e rw) o n = some ((xs.drop o).take n) := by
  unfold cutB; simp only; rw [if_pos h]
@[go_sem] theorem wr1_c {xs : List Value} {e : TypeId} {o : Nat} {v : Value} (h : o < xs.length) (hv : one v = true) : wr1 (.cells xs e true) o v = some (.cells (xs.set o v) e true) := by
  unfold wr1; simp only; rw [if_pos h, if_pos hv]
@[go_sem] theorem wrL_c {xs : List Value} {e : TypeId} {o : Nat} {vs : List Value} (h : o + vs.length ≤ xs.length) (hv : vs.all one = true) : wrL (.cells xs e true) o vs = some (.cells (spl xs o vs) e true) := by
  unfold wrL; simp only; rw [if_pos h, if_pos hv]
@[go_sem] theorem one_i {q : IntKind} {n : Int} : one (.int q n) = true := _root_.id rfl
@[go_sem] theorem one_b {b : Bool} : one (.bool b) = true := _root_.id rfl
@[go_sem] theorem one_s {b : ByteArray} : one (.string b) = true := _root_.id rfl
@[go_sem] theorem one_p {b : Option Addr} : one (.pointer b) = true := _root_.id rfl
@[go_sem] theorem one_sl {b : Option Addr} {n c : Nat} : one (.slice b n c) = true := _root_.id rfl
@[go_sem] theorem one_m {b : Option Nat} : one (.map b) = true := _root_.id rfl
@[go_sem] theorem one_f {f : Fn} {x c : Array Value} : one (.func f x c) = true := _root_.id rfl
attribute [go_sem] List.all_cons List.all_nil Bool.and_self
@[go_sem] theorem setB_s {b : Nat} {k : Blk} : setB H b (some k) = some (H.set b k) := _root_.id rfl
attribute [go_sem] spl
@[go_sem] theorem omap_some {α β : Type} {f : α → β} {a : α} : Option.map f (some a) = some (f a) := _root_.id rfl
@[go_sem] theorem obind_some {α β : Type} {f : α → Option β} {a : α} : Option.bind (some a) f = f a := _root_.id rfl
attribute [go_sem] List.getElem?_cons_zero List.getElem?_cons_succ List.length_cons List.length_nil List.drop_zero List.drop_succ_cons List.take_zero List.take_succ_cons List.take_nil List.drop_nil List.set_cons_zero List.set_cons_succ Nat.zero_add Nat.add_zero
  List.nil_append List.cons_append List.map_cons List.map_nil List.size_toArray List.getElem_cons_zero List.getElem_cons_succ

@[go_sem] theorem newv_agg {t : TypeId} {l : List Value} : newv t (.agg ⟨l⟩) H = some (.pointer (some ⟨H.n, 0, none⟩), H.push (.cells l t true)) := _root_.id rfl
@[go_sem] theorem newv_int {t : TypeId} {q : IntKind} {i : Int} : newv t (.int q i) H = some (.pointer (some ⟨H.n, 0, none⟩), H.push (.cells [.int q i] t true)) := _root_.id rfl
@[go_sem] theorem newv_bool {t : TypeId} {b : Bool} : newv t (.bool b) H = some (.pointer (some ⟨H.n, 0, none⟩), H.push (.cells [.bool b] t true)) := _root_.id rfl
@[go_sem] theorem newv_str {t : TypeId} {s : ByteArray} : newv t (.string s) H = some (.pointer (some ⟨H.n, 0, none⟩), H.push (.cells [.string s] t true)) := _root_.id rfl
@[go_sem] theorem newv_ptr {t : TypeId} {a : Option Addr} : newv t (.pointer a) H = some (.pointer (some ⟨H.n, 0, none⟩), H.push (.cells [.pointer a] t true)) := _root_.id rfl
@[go_sem] theorem newv_sl {t : TypeId} {a : Option Addr} {n c : Nat} : newv t (.slice a n c) H = some (.pointer (some ⟨H.n, 0, none⟩), H.push (.cells [.slice a n c] t true)) := _root_.id rfl
@[go_sem] theorem newv_map {t : TypeId} {a : Option Nat} : newv t (.map a) H = some (.pointer (some ⟨H.n, 0, none⟩), H.push (.cells [.map a] t true)) := _root_.id rfl
@[go_sem] theorem newv_fn {t : TypeId} {f : FuncId} {x c : Array Value} : newv t (.func (.func f) x c) H = some (.pointer (some ⟨H.n, 0, none⟩), H.push (.cells [.func (.func f) x c] t true)) := _root_.id rfl

/-! ### Structs out of parts -/
@[go_sem] theorem bldS_nil {z : Array Value} {pl : List (Nat × Nat)} : bldS z pl [] = some (.agg z) := _root_.id rfl
attribute [go_sem] bldS bldA bldL zeros fillX flat List.zipIdx_cons List.zipIdx_nil List.foldl_cons List.foldl_nil List.setIfInBounds_toArray List.toList_toArray

/-! ### What a call leaves as it was -/
/-- Blocks that are not in S, and were there, are as they were. -/
structure Fr (S : Nat → Prop) (H H' : AHeap) : Prop where
  n : H.n ≤ H'.n
  clk : H.clk ≤ H'.clk
  old : ∀ b, b < H.n → (H'.ver b = H.ver b ∧ H'.f b = H.f b) ∨ (H.clk ≤ H'.ver b ∧ S b)
  ok : (∀ b, H.ver b < H.clk) → ∀ b, H'.ver b < H'.clk

theorem Fr.refl {S : Nat → Prop} (H : AHeap) : Fr S H H := ⟨Nat.le_refl _, Nat.le_refl _, fun _ _ => .inl ⟨rfl, rfl⟩, fun h => h⟩
theorem Fr.trans {S : Nat → Prop} {H H1 H2 : AHeap} (a : Fr S H H1) (b : Fr S H1 H2) : Fr S H H2 :=
  ⟨Nat.le_trans a.n b.n, Nat.le_trans a.clk b.clk, fun c hc => by
    rcases b.old c (Nat.lt_of_lt_of_le hc a.n) with ⟨h1, h2⟩ | ⟨h1, h2⟩
    · rcases a.old c hc with ⟨h3, h4⟩ | ⟨h3, h4⟩
      · exact .inl ⟨h1.trans h3, h2.trans h4⟩
      · exact .inr ⟨by omega, h4⟩
    · exact .inr ⟨Nat.le_trans a.clk h1, h2⟩, fun h => b.ok (a.ok h)⟩
theorem Fr.push {S : Nat → Prop} {H H1 : AHeap} (a : Fr S H H1) (k : Blk) : Fr S H (H1.push k) :=
  ⟨by have := a.n; simp; omega, a.clk, fun c hc => by
    have h := a.old c hc
    have hn : c ≠ H1.n := by have := a.n; omega
    rwa [H1.push_ver k hn, H1.push_old k hn], fun h b => by
    by_cases hb : b = H1.n
    · subst hb; simp; exact Nat.lt_of_le_of_lt (Nat.zero_le _) (a.ok h 0)
    · rw [H1.push_ver k hb]; exact a.ok h b⟩
theorem Fr.set {S : Nat → Prop} {H H1 : AHeap} (a : Fr S H H1) (b : Nat) (k : Blk) (hb : b < H.n → S b) : Fr S H (H1.set b k) :=
  ⟨by simpa using a.n, by have := a.clk; simp; omega, fun c hc => by
    by_cases h : c = b
    · subst h; exact .inr ⟨by simpa using a.clk, hb hc⟩
    · rw [H1.set_ver k h, H1.set_other k h]; exact a.old c hc, fun h c => by
    by_cases hcb : c = b
    · subst hcb; simp
    · rw [H1.set_ver k hcb]; have := a.ok h c; simp; omega⟩
theorem Fr.mono {S S' : Nat → Prop} {H H1 : AHeap} (a : Fr S H H1) (h : ∀ b, b < H.n → S b → S' b) : Fr S' H H1 :=
  ⟨a.n, a.clk, fun b hb => (a.old b hb).imp id fun ⟨h1, h2⟩ => ⟨h1, h b hb h2⟩, a.ok⟩
theorem Fr.f {S : Nat → Prop} {H H1 : AHeap} (a : Fr S H H1) {b : Nat} (hb : b < H.n) (hs : ¬ S b) : H1.f b = H.f b := (a.old b hb).elim (·.2) fun h => absurd h.2 hs
theorem Fr.ver {S : Nat → Prop} {H H1 : AHeap} (a : Fr S H H1) {b : Nat} (hb : b < H.n) (hs : ¬ S b) : H1.ver b = H.ver b := (a.old b hb).elim (·.1) fun h => absurd h.2 hs

abbrev Still (H H' : AHeap) : Prop := Fr (fun _ => False) H H'
theorem Fr.still {S : Nat → Prop} {H H1 : AHeap} (a : Still H H1) : Fr S H H1 := a.mono fun _ _ h => h.elim
/-- A call in the midst: what it may turn is new, or may be turned. -/
theorem Fr.then {S S' : Nat → Prop} {H H1 H2 : AHeap} (a : Fr S H H1) (b : Fr S' H1 H2) (h : ∀ b, b < H.n → S' b → S b) : Fr S H H2 :=
  ⟨Nat.le_trans a.n b.n, Nat.le_trans a.clk b.clk, fun c hc => by
    rcases b.old c (Nat.lt_of_lt_of_le hc a.n) with ⟨h1, h2⟩ | ⟨h1, h2⟩
    · rcases a.old c hc with ⟨h3, h4⟩ | ⟨h3, h4⟩
      · exact .inl ⟨h1.trans h3, h2.trans h4⟩
      · exact .inr ⟨by omega, h4⟩
    · exact .inr ⟨Nat.le_trans a.clk h1, h c hc h2⟩, fun h => b.ok (a.ok h)⟩

theorem tidy_same {H H' : AHeap} {v : Value} (hv : gr 9 v = true) (h : Still H H') : tidy H (v, H') = (v, H) := by
  have hs : still H H' = true := List.all_eq_true.2 fun b hb => by
    rw [h.ver (by simpa using hb) (fun h => h)]; exact beq_self_eq_true _
  unfold tidy
  simp [hv, hs]
/-- The result of a function that turns nothing and makes nothing that is seen. -/
theorem pure_res {H H' : AHeap} {v : Value} {x : Res} (hx : x = some (tidy H (v, H'))) (hv : gr 9 v = true) (h : Still H H') : x = some (v, H) := by rw [hx, tidy_same hv h]
theorem tidy_turned {H H' : AHeap} {v : Value} {b : Nat} (hb : b < H.n) (h1 : H.ver b < H.clk) (h2 : H.clk ≤ H'.ver b) : tidy H (v, H') = (v, H') := by
  have hs : still H H' = false := by
    cases hq : still H H' with
    | false => rfl
    | true =>
      have := List.all_eq_true.1 hq b (by simpa using hb)
      simp at this
      omega
  unfold tidy
  simp [hs]
theorem tidy_mem {H H' : AHeap} {v : Value} (hv : gr 9 v = false) : tidy H (v, H') = (v, H') := by unfold tidy; simp [hv]
theorem tidy_fr {S : Nat → Prop} {H H' : AHeap} {v : Value} (h : Fr S H H') : ∃ H'', tidy H (v, H') = (v, H'') ∧ Fr S H H'' := by
  unfold tidy
  split
  · exact ⟨H, rfl, Fr.refl H⟩
  · exact ⟨H', rfl, h⟩

theorem pure_of {H H' : AHeap} {v : Value} {s x : Res} (hs : s = some (v, H')) (hd : s = some (v, H') → x = some (tidy H (v, H'))) (hv : gr 9 v = true) (h : Still H H') : x = some (v, H) := pure_res (hd hs) hv h

/-! ### Regions in any order -/
@[go_sem] theorem okV_same {go : Option Bool} {rd : Option Nat} {a b b' : AHeap} : okV go rd a a b b' = true := by
  unfold okV
  simp only [beq_self_eq_true, Bool.or_true, Bool.and_true]
  split
  · rfl
  · split <;> rfl
@[go_sem] theorem okV_none {go : Option Bool} {a a' b b' : AHeap} (h : a.n ≤ b.n ∨ b'.n ≤ b.n) : okV go none a a' b b' = true := by
  unfold okV
  have e : (decide (a.n ≤ b.n) || decide (b'.n ≤ b.n) || a'.ver b.n == a.ver b.n) = true := by
    rcases h with h | h <;> simp [h]
  rw [e]
  split <;> rfl
@[go_sem] theorem okV_some {go : Option Bool} {k : Nat} {a a' b b' : AHeap} (h1 : a.n ≤ k ∨ a'.ver k = a.ver k) (h : a.n ≤ b.n ∨ b'.n ≤ b.n) : okV go (some k) a a' b b' = true := by
  unfold okV
  have e : (decide (a.n ≤ b.n) || decide (b'.n ≤ b.n) || a'.ver b.n == a.ver b.n) = true := by
    rcases h with h | h <;> simp [h]
  have e1 : (decide (a.n ≤ k) || a'.ver k == a.ver k) = true := by
    rcases h1 with h | h <;> simp [h]
  rw [e]
  split
  · rfl
  · simp only [e1]; rfl
attribute [go_sem] Bool.true_and Bool.and_true blockOf

end Go.Proofs.Ytlagijfkkpbbnaa.Eng
