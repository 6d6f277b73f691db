/-
  The engine, contracts and laws: 15 texts in one (merge.py): Eng22 Eng23 Eng24 Eng25 Eng26 Eng28 Eng30 Eng31 Eng27 Eng32 Eng37 Eng38 Eng39 Eng40 Eng41.
  Conditions: none. By an AI agent.
-/
import Derived.Test.YtmiinbhnfojnbaaDoorQa2
import Derived.Attr
import Derived.Laws.StructEq
import Derived.ChangeArms
import Derived.DataReads
import Derived.ChangeShapes
import Derived.WideShapes
import Derived.Maps.RangeRun
set_option linter.unusedSimpArgs false
set_option linter.unusedVariables false
set_option linter.unusedSectionVars false
namespace Go.Proofs.YtmiinbhnfojnbaaDoor.Eng
open Go
variable {P : Program} {H H' : AHeap} {k : Value → AHeap → Res} {kk : K}
@[congr] theorem bareK_congr {x x' : Option Value} {H : AHeap} {k : Value → AHeap → Res} (h : Unit → x = x') : Yb x H k = Yb x' H k := by rw [h ()]
@[congr] theorem bothK_congr {x x' : Option (Value × AHeap)} {k : Value → AHeap → Res} (h : Unit → x = x') : Yp x k = Yp x' k := by rw [h ()]
@[congr] theorem quietK_congr {x x' : Option AHeap} {k : Value → AHeap → Res} (h : Unit → x = x') : Yr x k = Yr x' k := by rw [h ()]
@[congr] theorem enterK_congr {C : Yc} {g : FuncId} {a a' : List Value} {H : AHeap} {k : Value → AHeap → Res} (h : Unit → a = a') : Yh C g a H k = Yh C g a' H k := by rw [h ()]
@[congr] theorem callK_congr {C : Yc} {g g' : Value} {a a' : List Value} {H : AHeap} {k : Value → AHeap → Res} (h0 : Unit → g = g') (h : Unit → a = a') : Qr P C g a H k = Qr P C g' a' H k := by rw [h (), h0 ()]
@[congr] theorem nextK_congr {C : Yc} {x x' : Option DNext} {H : AHeap} {k : Value → AHeap → Res} (h : Unit → x = x') : Va C H x k = Va C H x' k := by rw [h ()]
@[congr] theorem pickK_congr {c c' a b : Value} {k : Value → Res} (h : Unit → c = c') : YQ c a b k = YQ c' a b k := by rw [h ()]
@[congr] theorem guardK_congr {g g' : Value} {w : Bool} {op : (Value → AHeap → Res) → Res} {H : AHeap} {k : Value → AHeap → Res} (h : Unit → g = g') : Ye g w op H k = Ye g' w op H k := by rw [h ()]
@[congr] theorem condL_congr {c c' : Value} {x y : K → Res} {k : K} (h : Unit → c = c') : Ym c x y k = Ym c' x y k := by rw [h ()]
@[congr] theorem checkK_congr {b b' : Bool} {r : Res} (h : Unit → b = b') : Xy b r = Xy b' r := by rw [h ()]
@[go_sem] theorem bareK_some' {v : Value} : Yb (some v) H k = k v H := _root_.id rfl
@[go_sem] theorem bothK_some' {v : Value} : Yp (some (v, H)) k = k v H := _root_.id rfl
@[go_sem] theorem quietK_some' : Yr (some H) k = k undef H := _root_.id rfl
@[go_sem] theorem checkK_true' {r : Res} : Xy true r = r := _root_.id rfl
@[go_sem] theorem pickK_t {a b : Value} {k : Value → Res} : YQ (.bool true) a b k = k a := _root_.id rfl
@[go_sem] theorem pickK_f {a b : Value} {k : Value → Res} : YQ (.bool false) a b k = k b := _root_.id rfl
@[go_sem] theorem condL_t {x y : K → Res} : Ym (.bool true) x y kk = x kk := _root_.id rfl
@[go_sem] theorem condL_f {x y : K → Res} : Ym (.bool false) x y kk = y kk := _root_.id rfl
@[go_sem ↓] theorem shareL_go {f : K → Res} : Yg f kk = f kk := _root_.id rfl
@[go_sem] theorem guardK_tt {op : (Value → AHeap → Res) → Res} : Ye (.bool true) true op H k = op k := _root_.id rfl
@[go_sem] theorem guardK_ff {op : (Value → AHeap → Res) → Res} : Ye (.bool false) false op H k = op k := _root_.id rfl
@[go_sem] theorem guardK_tf {op : (Value → AHeap → Res) → Res} : Ye (.bool true) false op H k = k undef H := _root_.id rfl
@[go_sem] theorem guardK_ft {op : (Value → AHeap → Res) → Res} : Ye (.bool false) true op H k = k undef H := _root_.id rfl
@[go_sem] theorem guardK_un {op : (Value → AHeap → Res) → Res} {b : Bool} : Ye (.tuple #[]) b op H k = k undef H := _root_.id rfl
@[go_sem] theorem undef_eq : undef = .tuple #[] := _root_.id rfl
attribute [go_sem] stdL_g stdL_c stdL_s
@[go_sem ↓] theorem afterK_n {keep : List Nat} {T : Env} : Yl keep kk .normal T H = kk .normal (clr keep T) H := _root_.id rfl
@[go_sem ↓] theorem afterK_e {keep : List Nat} {T : Env} {i : Nat} : Yl keep kk (.exit i) T H = kk (.exit i) T H := _root_.id rfl
@[go_sem ↓] theorem afterK_r {keep : List Nat} {T : Env} : Yl keep kk .ret T H = kk .ret T H := _root_.id rfl
@[go_sem ↓] theorem blkK_n {keep : List Nat} {id : Nat} {T : Env} : YI keep id kk .normal T H = kk .normal (clr keep T) H := _root_.id rfl
@[go_sem ↓] theorem blkK_e {keep : List Nat} {T : Env} {i id : Nat} : YI keep id kk (.exit i) T H = if i = id then kk .normal (clr keep T) H else kk (.exit i) T H := _root_.id rfl
@[go_sem ↓] theorem blkK_r {keep : List Nat} {id : Nat} {T : Env} : YI keep id kk .ret T H = kk .ret T H := _root_.id rfl
@[go_sem ↓] theorem seqK_n {f : Env → AHeap → Res} {T : Env} : Ys f kk .normal T H = f T H := _root_.id rfl
@[go_sem ↓] theorem seqK_e {f : Env → AHeap → Res} {T : Env} {i : Nat} : Ys f kk (.exit i) T H = kk (.exit i) T H := _root_.id rfl
@[go_sem ↓] theorem seqK_r {f : Env → AHeap → Res} {T : Env} : Ys f kk .ret T H = kk .ret T H := _root_.id rfl
@[go_sem] theorem nextK_v {call : Yc} {H0 : AHeap} {v : Value} : Va call H0 (some (.val v H)) k = k v H := _root_.id rfl
@[go_sem] theorem nextK_bare {call : Yc} {H0 : AHeap} {v : Value} : Va call H0 (bare (some v) H) k = k v H := _root_.id rfl
@[go_sem] theorem nextK_both {call : Yc} {H0 : AHeap} {v : Value} : Va call H0 (both (some (v, H))) k = k v H := _root_.id rfl
@[go_sem] theorem nextK_quiet {call : Yc} {H0 : AHeap} : Va call H0 (quiet (some H)) k = k undef H := _root_.id rfl
attribute [go_sem ↓] bareK_some' bothK_some' quietK_some' checkK_true' pickK_t pickK_f condL_t condL_f guardK_tt guardK_ff guardK_tf guardK_ft guardK_un nextK_v nextK_bare nextK_both nextK_quiet
theorem Ya {call : Yc} {g : FuncId} {args : List Value} {v : Value} (h : call g args H = some (v, H')) : Yh call g args H k = k v H' := by simp [Yh, h]
@[go_sem] theorem get_c {a : Nat} {v : Value} {T : Env} {t : Nat} : get ((a, v) :: T) t = if t = a then v else get T t := Vq a v T t
@[go_sem ↓] theorem get_hd {v : Value} {T : Env} {t : Nat} : get ((t, v) :: T) t = v := by rw [Vq]; simp
@[go_sem] theorem clr_nil {T : Env} : clr [] T = [] := _root_.id rfl
@[go_sem] theorem clr_cons {t : Nat} {l : List Nat} {T : Env} : clr (t :: l) T = (t, get T t) :: clr l T := _root_.id rfl
@[go_sem ↓] theorem endK_ret {rs : List ResultVar} {T : Env} : Yi P rs .ret T H = WY P H T rs fun l => some (XY l, H) := _root_.id rfl
@[go_sem ↓] theorem endK_normal {rs : List ResultVar} {T : Env} : Yi P rs .normal T H = WY P H T rs fun l => some (XY l, H) := _root_.id rfl
@[go_sem] theorem resValsK_nil {T : Env} {k : List Value → Res} : WY P H T [] k = k [] := _root_.id rfl
@[go_sem] theorem resValsK_tmp {T : Env} {t : Nat} {rs : List ResultVar} {k : List Value → Res} : WY P H T (.tmp t :: rs) k = WY P H T rs fun l => k (get T t :: l) := _root_.id rfl
@[go_sem] theorem resValsK_cell {T : Env} {a : Nat} {t : TypeId} {rs : List ResultVar} {k : List Value → Res} : WY P H T (.cell a t :: rs) k = Yb (UH P t (get T a) H) H fun v _ => WY P H T rs fun l => k (v :: l) := _root_.id rfl
@[go_sem] theorem resultOf_0 : XY [] = .tuple #[] := _root_.id rfl
@[go_sem] theorem resultOf_1 {v : Value} : XY [v] = v := _root_.id rfl
@[go_sem] theorem resultOf_2 {v w : Value} {l : List Value} : XY (v :: w :: l) = .tuple (v :: w :: l).toArray := _root_.id rfl
attribute [go_sem] xbin_lss xbin_leq
@[go_sem] theorem not_b {b : Bool} : xun P .not (.bool b) = some (.bool !b) := _root_.id rfl
@[go_sem] theorem int_eq {t : TypeId} {ox oy : Operand} {q : IntKind} {a b : Int} : Yf P .eql t ox oy (.int q a) (.int q b) = some (.bool (decide (a = b))) := xbin_eql
@[go_sem] theorem int_ne {t : TypeId} {ox oy : Operand} {q : IntKind} {a b : Int} : Yf P .neq t ox oy (.int q a) (.int q b) = some (.bool (!decide (a = b))) := xbin_neq
@[go_sem] theorem int_gt {t : TypeId} {ox oy : Operand} {q : IntKind} {a b : Int} : Yf P .gtr t ox oy (.int q a) (.int q b) = some (.bool (decide (b < a))) := xbin_gtr
@[go_sem] theorem int_ge {t : TypeId} {ox oy : Operand} {q : IntKind} {a b : Int} : Yf P .geq t ox oy (.int q a) (.int q b) = some (.bool (decide (b ≤ a))) := xbin_geq
attribute [go_sem] ne_eq gt_iff_lt ge_iff_le Bool.or_self Bool.false_eq_true Int.cast_ofNat_Int decide_true decide_false Bool.not_true Bool.not_false Int.natCast_zero Int.natCast_one Int.natCast_add not_true_eq_false not_false_eq_true Bool.or_true Bool.or_false Bool.and_false Bool.true_or Bool.false_or Bool.false_and
theorem XE {n : Int} (h : -9223372036854775808 ≤ n ∧ n < 9223372036854775808) : IntKind.wrap .i64 n = n := wrap64 h.1 h.2
@[go_sem] theorem add_i64 {t : TypeId} {ox oy : Operand} {a b : Int} (h : -9223372036854775808 ≤ a + b ∧ a + b < 9223372036854775808) : Yf P .add t ox oy (.int .i64 a) (.int .i64 b) = some (.int .i64 (a + b)) := by
  rw [Ud, XE h]
@[go_sem] theorem sub_i64 {t : TypeId} {ox oy : Operand} {a b : Int} (h : -9223372036854775808 ≤ a - b ∧ a - b < 9223372036854775808) : Yf P .sub t ox oy (.int .i64 a) (.int .i64 b) = some (.int .i64 (a - b)) := by
  rw [xbin_sub, XE h]
@[go_sem] theorem mul_i64 {t : TypeId} {ox oy : Operand} {a b : Int} (h : -9223372036854775808 ≤ a * b ∧ a * b < 9223372036854775808) : Yf P .mul t ox oy (.int .i64 a) (.int .i64 b) = some (.int .i64 (a * b)) := by
  rw [xbin_mul, XE h]
theorem ZW {s : Sem Value} {v : Value} (h : pv P s = some v) (g : gr 9 v = true) : pvg P s = some v := by unfold pvg; rw [h]; simp only [g, if_true]
@[go_sem] theorem min_int {ts : List TypeId} {q : IntKind} {a b : Int} : YN P .min ts [.int q a, .int q b] H = some (.val (.int q (min a b)) H) := by
  have h : pvg P (Builtin.min_ #[] 0 #[.int q a, .int q b]) = some (.int q (if b < a then b else a)) := ZW rfl rfl
  have e : YN P .min ts [.int q a, .int q b] H = bare (pvg P (Builtin.min_ #[] 0 #[.int q a, .int q b])) H := rfl
  rw [e, h, show min a b = if b < a then b else a by rw [Int.min_def]; split <;> split <;> omega]
  rfl
@[go_sem] theorem max_int {ts : List TypeId} {q : IntKind} {a b : Int} : YN P .max ts [.int q a, .int q b] H = some (.val (.int q (max a b)) H) := by
  have h : pvg P (Builtin.max_ #[] 0 #[.int q a, .int q b]) = some (.int q (if a < b then b else a)) := ZW rfl rfl
  have e : YN P .max ts [.int q a, .int q b] H = bare (pvg P (Builtin.max_ #[] 0 #[.int q a, .int q b])) H := rfl
  rw [e, h, show max a b = if a < b then b else a by rw [Int.max_def]; split <;> split <;> omega]
  rfl
theorem Xk {s t : TypeId} {a b : IntKind} {n : Int} (hs : P.underlying s = some (.int a)) (ht : P.underlying t = some (.int b)) : YP P s t (.int a n) H = some (.int b (b.wrap n), H) := by
  have h : pv P (convert s t (.int a n)) = some (.int b (b.wrap n)) := by
    simp [convert, underlying, program, pv, Bind.bind, Sem.bind, Pure.pure, hs, ht, Conv.intToInt]
  have g : pvg P (convert s t (.int a n)) = some (.int b (b.wrap n)) := ZW h rfl
  unfold YP
  rw [hs, ht]
  simp only [g, Option.map_some]
  rfl
attribute [go_sem] YT mk_bl
@[go_sem] theorem str_eq {t : TypeId} {ox oy : Operand} {a b : ByteArray} : Yf P .eql t ox oy (.string a) (.string b) = some (.bool (decide (bl a = bl b))) := by
  have h : Yf P .eql t ox oy (.string a) (.string b) = some (.bool (bl a == bl b)) := rfl
  rw [h, Bool.beq_eq_decide_eq]
@[go_sem] theorem str_ne {t : TypeId} {ox oy : Operand} {a b : ByteArray} : Yf P .neq t ox oy (.string a) (.string b) = some (.bool (!decide (bl a = bl b))) := by
  have h : Yf P .neq t ox oy (.string a) (.string b) = some (.bool !(bl a == bl b)) := rfl
  rw [h, Bool.beq_eq_decide_eq]
@[go_sem] theorem str_lt {t : TypeId} {ox oy : Operand} {a b : ByteArray} : Yf P .lss t ox oy (.string a) (.string b) = some (.bool (Op.bytesLess (bl a) (bl b))) := _root_.id rfl
@[go_sem] theorem str_le {t : TypeId} {ox oy : Operand} {a b : ByteArray} : Yf P .leq t ox oy (.string a) (.string b) = some (.bool (Op.bytesLess (bl a) (bl b) || bl a == bl b)) := _root_.id rfl
@[go_sem] theorem str_gt {t : TypeId} {ox oy : Operand} {a b : ByteArray} : Yf P .gtr t ox oy (.string a) (.string b) = some (.bool !(Op.bytesLess (bl a) (bl b) || bl a == bl b)) := _root_.id rfl
@[go_sem] theorem str_ge {t : TypeId} {ox oy : Operand} {a b : ByteArray} : Yf P .geq t ox oy (.string a) (.string b) = some (.bool !(Op.bytesLess (bl a) (bl b))) := _root_.id rfl
def lenT : Value → Option Value | .string s => some (goInt (bl s).length) | _ => none
def lenS : Value → Option Value | .slice _ n _ => some (goInt n) | _ => none
@[go_sem] theorem lenT_s {s : ByteArray} : lenT (.string s) = some (.int .i64 (bl s).length) := _root_.id rfl
@[go_sem] theorem lenS_s {a : Option Addr} {n c : Nat} : lenS (.slice a n c) = some (.int .i64 n) := _root_.id rfl
@[go_sem] theorem fad_s {b o f : Nat} : fad f (.pointer (some ⟨b, o, none⟩)) = some (.pointer (some ⟨b, o + f, none⟩)) := _root_.id rfl
@[go_sem] theorem nilCheck_s {a : Addr} : Yz (.pointer (some a)) = some (.pointer (some a)) := _root_.id rfl
@[go_sem] theorem nilCheck_f {f : FuncId} {x c : Array Value} : Yz (.func (.func f) x c) = some (.func (.func f) x c) := _root_.id rfl
@[go_sem] theorem prt1_s {o : Nat} {l : List Value} : prt1 o (.agg ⟨l⟩) = l[o]? := by simp [prt1]
@[go_sem] theorem prtN_s {n o : Nat} {l : List Value} : prtN n o (.agg ⟨l⟩) = some (.agg ⟨(l.drop o).take n⟩) := by simp [prtN, List.extract_toArray]
@[go_sem] theorem extract_s {i : Nat} {l : List Value} : Yn (.tuple ⟨l⟩) i = l[i]? := by simp [Yn]
@[go_sem] theorem push_n' {k : Blk} : (H.push k).n = H.n + 1 := _root_.id rfl
@[go_sem] theorem set_n' {b : Nat} {k : Blk} : (H.set b k).n = H.n := _root_.id rfl
@[go_sem] theorem Yu {b : Nat} {k : Blk} (h : b = H.n) : (H.push k).f b = k := by subst h; simp
@[go_sem] theorem push_f_ne {b : Nat} {k : Blk} (h : b ≠ H.n) : (H.push k).f b = H.f b := H.push_old k h
@[go_sem] theorem YC {b : Nat} {k : Blk} : (H.set b k).f b = k := by simp
@[go_sem] theorem set_f_ne {b c : Nat} {k : Blk} (h : c ≠ b) : (H.set b k).f c = H.f c := H.set_other k h
theorem set_v_eq {b : Nat} {k : Blk} : (H.set b k).ver b = H.clk := by simp
def X4 : Blk → Nat → Option Value | .cells xs _ _, o => xs[o]? | _, _ => none
def UT : Blk → Nat → Nat → Option (List Value) | .cells xs _ _, o, n => if o + n ≤ xs.length then some ((xs.drop o).take n) else none | _, _, _ => none
def wr1 : Blk → Nat → Value → Option Blk | .cells xs e true, o, v => if o < xs.length then (if one v then some (.cells (xs.set o v) e true) else none) else none | _, _, _ => none
def wrL : Blk → Nat → List Value → Option Blk | .cells xs e true, o, vs => if o + vs.length ≤ xs.length then (if vs.all one then some (.cells (spl xs o vs) e true) else none) else none | _, _, _ => none
def setB (H : AHeap) (b : Nat) (k : Option Blk) : Option AHeap := k.map (H.set b)
@[go_sem] theorem ld1_b {b o : Nat} : ld1 H (.pointer (some ⟨b, o, none⟩)) = X4 (H.f b) o := by
  unfold ld1 X4; simp only; cases H.f b <;> rfl
theorem cut_b {b o n : Nat} : cut H b o n = UT (H.f b) o n := by unfold cut UT; cases H.f b <;> rfl
@[go_sem] theorem ldN_b {b o n : Nat} : ldN n H (.pointer (some ⟨b, o, none⟩)) = (UT (H.f b) o n).map fun l => .agg ⟨l⟩ := by
  unfold ldN; simp only [cut_b]
@[go_sem] theorem st1_b {b o : Nat} {v : Value} : st1 H (.pointer (some ⟨b, o, none⟩)) v = setB H b (wr1 (H.f b) o v) := by
  simp only [st1, setB, wr1]
  generalize H.f b = q
  cases q with
  | cells xs e rw =>
    cases rw with
    | true => by_cases h1 : o < xs.length <;> by_cases h2 : one v = true <;> simp [h1, h2]
    | false => rfl
  | _ => rfl
theorem stL_b {b o : Nat} {vs : List Value} : stL H b o vs = setB H b (wrL (H.f b) o vs) := by
  simp only [stL, setB, wrL]
  generalize H.f b = q
  cases q with
  | cells xs e rw =>
    cases rw with
    | true => by_cases h1 : o + vs.length ≤ xs.length <;> by_cases h2 : vs.all one = true <;> simp only [h1, h2, if_true, if_false] <;> rfl
    | false => rfl
  | _ => rfl
@[go_sem] theorem stN_b {b o n : Nat} {l : List Value} (h : l.length = n) : stN n H (.pointer (some ⟨b, o, none⟩)) (.agg ⟨l⟩) = setB H b (wrL (H.f b) o l) := by
  unfold stN
  simp only [List.size_toArray, h, if_true, stL_b]
@[go_sem] theorem cellB_c {xs : List Value} {e : TypeId} {rw : Bool} {o : Nat} : X4 (.cells xs e rw) o = xs[o]? := _root_.id rfl
@[go_sem] theorem cutB_c {xs : List Value} {e : TypeId} {rw : Bool} {o n : Nat} (h : o + n ≤ xs.length) : UT (.cells xs e rw) o n = some ((xs.drop o).take n) := by
  unfold UT; simp only; rw [if_pos h]
@[go_sem] theorem wr1_c {xs : List Value} {e : TypeId} {o : Nat} {v : Value} (h : o < xs.length) (hv : one v = true) : wr1 (.cells xs e true) o v = some (.cells (xs.set o v) e true) := by
  unfold wr1; simp only; rw [if_pos h, if_pos hv]
@[go_sem] theorem wrL_c {xs : List Value} {e : TypeId} {o : Nat} {vs : List Value} (h : o + vs.length ≤ xs.length) (hv : vs.all one = true) : wrL (.cells xs e true) o vs = some (.cells (spl xs o vs) e true) := by
  unfold wrL; simp only; rw [if_pos h, if_pos hv]
@[go_sem] theorem one_i {q : IntKind} {n : Int} : one (.int q n) = true := _root_.id rfl
@[go_sem] theorem one_b {b : Bool} : one (.bool b) = true := _root_.id rfl
@[go_sem] theorem one_s {b : ByteArray} : one (.string b) = true := _root_.id rfl
@[go_sem] theorem one_p {b : Option Addr} : one (.pointer b) = true := _root_.id rfl
@[go_sem] theorem one_sl {b : Option Addr} {n c : Nat} : one (.slice b n c) = true := _root_.id rfl
@[go_sem] theorem one_m {b : Option Nat} : one (.map b) = true := _root_.id rfl
@[go_sem] theorem one_f {f : Fn} {x c : Array Value} : one (.func f x c) = true := _root_.id rfl
attribute [go_sem] List.all_cons List.all_nil Bool.and_self
@[go_sem] theorem setB_s {b : Nat} {k : Blk} : setB H b (some k) = some (H.set b k) := _root_.id rfl
attribute [go_sem] spl
@[go_sem] theorem omap_some {α β : Type} {f : α → β} {a : α} : Option.map f (some a) = some (f a) := _root_.id rfl
@[go_sem] theorem obind_some {α β : Type} {f : α → Option β} {a : α} : Option.bind (some a) f = f a := _root_.id rfl
attribute [go_sem] List.getElem?_cons_zero List.getElem?_cons_succ List.length_cons List.length_nil List.drop_zero List.drop_succ_cons List.take_zero List.take_succ_cons List.take_nil List.drop_nil List.set_cons_zero List.set_cons_succ Nat.zero_add Nat.add_zero
  List.nil_append List.cons_append List.map_cons List.map_nil List.size_toArray List.getElem_cons_zero List.getElem_cons_succ
@[go_sem] theorem newv_agg {t : TypeId} {l : List Value} : XT t (.agg ⟨l⟩) H = some (.pointer (some ⟨H.n, 0, none⟩), H.push (.cells l t true)) := _root_.id rfl
@[go_sem] theorem newv_int {t : TypeId} {q : IntKind} {i : Int} : XT t (.int q i) H = some (.pointer (some ⟨H.n, 0, none⟩), H.push (.cells [.int q i] t true)) := _root_.id rfl
@[go_sem] theorem newv_bool {t : TypeId} {b : Bool} : XT t (.bool b) H = some (.pointer (some ⟨H.n, 0, none⟩), H.push (.cells [.bool b] t true)) := _root_.id rfl
@[go_sem] theorem newv_str {t : TypeId} {s : ByteArray} : XT t (.string s) H = some (.pointer (some ⟨H.n, 0, none⟩), H.push (.cells [.string s] t true)) := _root_.id rfl
@[go_sem] theorem newv_ptr {t : TypeId} {a : Option Addr} : XT t (.pointer a) H = some (.pointer (some ⟨H.n, 0, none⟩), H.push (.cells [.pointer a] t true)) := _root_.id rfl
@[go_sem] theorem newv_sl {t : TypeId} {a : Option Addr} {n c : Nat} : XT t (.slice a n c) H = some (.pointer (some ⟨H.n, 0, none⟩), H.push (.cells [.slice a n c] t true)) := _root_.id rfl
@[go_sem] theorem newv_map {t : TypeId} {a : Option Nat} : XT t (.map a) H = some (.pointer (some ⟨H.n, 0, none⟩), H.push (.cells [.map a] t true)) := _root_.id rfl
@[go_sem] theorem newv_fn {t : TypeId} {f : FuncId} {x c : Array Value} : XT t (.func (.func f) x c) H = some (.pointer (some ⟨H.n, 0, none⟩), H.push (.cells [.func (.func f) x c] t true)) := _root_.id rfl
@[go_sem] theorem bldS_nil {z : Array Value} {pl : List (Nat × Nat)} : Ui z pl [] = some (.agg z) := _root_.id rfl
attribute [go_sem] Ui bldA UC zeros fillX flat List.zipIdx_cons List.zipIdx_nil List.foldl_cons List.foldl_nil List.setIfInBounds_toArray List.toList_toArray
structure Fr (S : Nat → Prop) (H H' : AHeap) : Prop where
  n : H.n ≤ H'.n
  clk : H.clk ≤ H'.clk
  old : ∀ b, b < H.n → (H'.ver b = H.ver b ∧ H'.f b = H.f b) ∨ (H.clk ≤ H'.ver b ∧ S b)
  ok : (∀ b, H.ver b < H.clk) → ∀ b, H'.ver b < H'.clk
theorem Fr.refl {S : Nat → Prop} (H : AHeap) : Fr S H H := ⟨Nat.le_refl _, Nat.le_refl _, fun _ _ => .inl ⟨rfl, rfl⟩, fun h => h⟩
theorem Fr.trans {S : Nat → Prop} {H H1 H2 : AHeap} (a : Fr S H H1) (b : Fr S H1 H2) : Fr S H H2 :=
  ⟨Nat.le_trans a.n b.n, Nat.le_trans a.clk b.clk, fun c hc => by
    rcases b.old c (Nat.lt_of_lt_of_le hc a.n) with ⟨h1, h2⟩ | ⟨h1, h2⟩
    · rcases a.old c hc with ⟨h3, h4⟩ | ⟨h3, h4⟩
      · exact .inl ⟨h1.trans h3, h2.trans h4⟩
      · exact .inr ⟨by omega, h4⟩
    · exact .inr ⟨Nat.le_trans a.clk h1, h2⟩, fun h => b.ok (a.ok h)⟩
theorem Fr.push {S : Nat → Prop} {H H1 : AHeap} (a : Fr S H H1) (k : Blk) : Fr S H (H1.push k) :=
  ⟨by have := a.n; simp; omega, a.clk, fun c hc => by
    have h := a.old c hc
    have hn : c ≠ H1.n := by have := a.n; omega
    rwa [H1.push_ver k hn, H1.push_old k hn], fun h b => by
    by_cases hb : b = H1.n
    · subst hb; simp; exact Nat.lt_of_le_of_lt (Nat.zero_le _) (a.ok h 0)
    · rw [H1.push_ver k hb]; exact a.ok h b⟩
theorem Fr.set {S : Nat → Prop} {H H1 : AHeap} (a : Fr S H H1) (b : Nat) (k : Blk) (hb : b < H.n → S b) : Fr S H (H1.set b k) :=
  ⟨by simpa using a.n, by have := a.clk; simp; omega, fun c hc => by
    by_cases h : c = b
    · subst h; exact .inr ⟨by simpa using a.clk, hb hc⟩
    · rw [H1.set_ver k h, H1.set_other k h]; exact a.old c hc, fun h c => by
    by_cases hcb : c = b
    · subst hcb; simp
    · rw [H1.set_ver k hcb]; have := a.ok h c; simp; omega⟩
theorem Fr.mono {S S' : Nat → Prop} {H H1 : AHeap} (a : Fr S H H1) (h : ∀ b, b < H.n → S b → S' b) : Fr S' H H1 :=
  ⟨a.n, a.clk, fun b hb => (a.old b hb).imp id fun ⟨h1, h2⟩ => ⟨h1, h b hb h2⟩, a.ok⟩
theorem Fr.f {S : Nat → Prop} {H H1 : AHeap} (a : Fr S H H1) {b : Nat} (hb : b < H.n) (hs : ¬ S b) : H1.f b = H.f b := (a.old b hb).elim (·.2) fun h => absurd h.2 hs
theorem Fr.ver {S : Nat → Prop} {H H1 : AHeap} (a : Fr S H H1) {b : Nat} (hb : b < H.n) (hs : ¬ S b) : H1.ver b = H.ver b := (a.old b hb).elim (·.1) fun h => absurd h.2 hs
abbrev Yq (H H' : AHeap) : Prop := Fr (fun _ => False) H H'
theorem Fr.still {S : Nat → Prop} {H H1 : AHeap} (a : Yq H H1) : Fr S H H1 := a.mono fun _ _ h => h.elim
theorem Fr.then {S S' : Nat → Prop} {H H1 H2 : AHeap} (a : Fr S H H1) (b : Fr S' H1 H2) (h : ∀ b, b < H.n → S' b → S b) : Fr S H H2 :=
  ⟨Nat.le_trans a.n b.n, Nat.le_trans a.clk b.clk, fun c hc => by
    rcases b.old c (Nat.lt_of_lt_of_le hc a.n) with ⟨h1, h2⟩ | ⟨h1, h2⟩
    · rcases a.old c hc with ⟨h3, h4⟩ | ⟨h3, h4⟩
      · exact .inl ⟨h1.trans h3, h2.trans h4⟩
      · exact .inr ⟨by omega, h4⟩
    · exact .inr ⟨Nat.le_trans a.clk h1, h c hc h2⟩, fun h => b.ok (a.ok h)⟩
theorem tidy_same {H H' : AHeap} {v : Value} (hv : gr 9 v = true) (h : Yq H H') : tidy H (v, H') = (v, H) := by
  have hs : still H H' = true := List.all_eq_true.2 fun b hb => by
    rw [h.ver (by simpa using hb) (fun h => h)]; exact beq_self_eq_true _
  unfold tidy
  simp [hv, hs]
theorem pure_res {H H' : AHeap} {v : Value} {x : Res} (hx : x = some (tidy H (v, H'))) (hv : gr 9 v = true) (h : Yq H H') : x = some (v, H) := by rw [hx, tidy_same hv h]
theorem Uy {H H' : AHeap} {v : Value} {b : Nat} (hb : b < H.n) (h1 : H.ver b < H.clk) (h2 : H.clk ≤ H'.ver b) : tidy H (v, H') = (v, H') := by
  have hs : still H H' = false := by
    cases hq : still H H' with
    | false => rfl
    | true =>
      have := List.all_eq_true.1 hq b (by simpa using hb)
      simp at this
      omega
  unfold tidy
  simp [hs]
theorem WK {H H' : AHeap} {v : Value} (hv : gr 9 v = false) : tidy H (v, H') = (v, H') := by unfold tidy; simp [hv]
theorem Yj {H H' : AHeap} {v : Value} {s x : Res} (hs : s = some (v, H')) (hd : s = some (v, H') → x = some (tidy H (v, H'))) (hv : gr 9 v = true) (h : Yq H H') : x = some (v, H) := pure_res (hd hs) hv h
@[go_sem] theorem okV_same {go : Option Bool} {rd : Option Nat} {a b b' : AHeap} : okV go rd a a b b' = true := by
  unfold okV
  simp only [beq_self_eq_true, Bool.or_true, Bool.and_true]
  split
  · rfl
  · split <;> rfl
@[go_sem] theorem okV_none {go : Option Bool} {a a' b b' : AHeap} (h : a.n ≤ b.n ∨ b'.n ≤ b.n) : okV go none a a' b b' = true := by
  unfold okV
  have e : (decide (a.n ≤ b.n) || decide (b'.n ≤ b.n) || a'.ver b.n == a.ver b.n) = true := by
    rcases h with h | h <;> simp [h]
  rw [e]
  split <;> rfl
@[go_sem] theorem ZR {go : Option Bool} {k : Nat} {a a' b b' : AHeap} (h1 : a.n ≤ k ∨ a'.ver k = a.ver k) (h : a.n ≤ b.n ∨ b'.n ≤ b.n) : okV go (some k) a a' b b' = true := by
  unfold okV
  have e : (decide (a.n ≤ b.n) || decide (b'.n ≤ b.n) || a'.ver b.n == a.ver b.n) = true := by
    rcases h with h | h <;> simp [h]
  have e1 : (decide (a.n ≤ k) || a'.ver k == a.ver k) = true := by
    rcases h1 with h | h <;> simp [h]
  rw [e]
  split
  · rfl
  · simp only [e1]; rfl
attribute [go_sem] Bool.true_and Bool.and_true Yk
end Go.Proofs.YtmiinbhnfojnbaaDoor.Eng

namespace Go.Proofs.YtmiinbhnfojnbaaDoor.Eng
open Go
structure Enc (α : Type) where
  w : Nat
  enc : α → List Value
  len : ∀ a, (enc a).length = w
  pos : 0 < w
  one : ∀ a, (enc a).all one = true
namespace Enc
variable {α : Type} (E : Enc α)
def cells (l : List α) : List Value := l.flatMap E.enc
@[simp] theorem cells_nil : E.cells [] = [] := rfl
@[simp] theorem cells_cons (a : α) (l : List α) : E.cells (a :: l) = E.enc a ++ E.cells l := rfl
theorem cells_append (l m : List α) : E.cells (l ++ m) = E.cells l ++ E.cells m := by simp [cells]
@[simp] theorem cells_len : ∀ (l : List α), (E.cells l).length = l.length * E.w
  | [] => by simp
  | a :: l => by simp [E.len, cells_len l, Nat.add_mul]; omega
theorem cells_one : ∀ (l : List α), (E.cells l).all Eng.one = true
  | [] => rfl
  | a :: l => by rw [cells_cons, List.all_append, E.one, cells_one l]; rfl
theorem cells_drop : ∀ (l : List α) (i : Nat), (E.cells l).drop (i * E.w) = E.cells (l.drop i)
  | l, 0 => by simp
  | [], i + 1 => by simp
  | a :: l, i + 1 => by
    rw [cells_cons, List.drop_append, E.len, List.drop_eq_nil_of_le (by rw [E.len, Nat.add_mul]; omega)]
    rw [show (i + 1) * E.w - E.w = i * E.w by rw [Nat.add_mul]; omega, cells_drop l i]
    simp
theorem cells_take : ∀ (l : List α) (i : Nat), (E.cells l).take (i * E.w) = E.cells (l.take i)
  | l, 0 => by simp
  | [], i + 1 => by simp
  | a :: l, i + 1 => by
    rw [cells_cons, List.take_append, E.len, List.take_of_length_le (by rw [E.len, Nat.add_mul]; omega)]
    rw [show (i + 1) * E.w - E.w = i * E.w by rw [Nat.add_mul]; omega, cells_take l i]
    simp
theorem cells_elem (l : List α) (i : Nat) (h : i < l.length) : ((E.cells l).drop (i * E.w)).take E.w = E.enc l[i] := by
  rw [cells_drop, List.drop_eq_getElem_cons h, cells_cons, List.take_append, E.len, Nat.sub_self, List.take_zero, List.append_nil, List.take_of_length_le (by rw [E.len]; exact Nat.le_refl _)]
end Enc
variable {P : Program} {α : Type} {E : Enc α} {H H' : AHeap} {v : Value} {l : List α} {e : TypeId}
def Rd (E : Enc α) (H : AHeap) (v : Value) (l : List α) : Prop :=
  (l = [] ∧ v = .slice none 0 0) ∨ (l = [] ∧ ∃ a k, v = .slice (some a) 0 k ∧ a.spot = none) ∨
  ∃ b o c, v = .slice (some ⟨b, o, none⟩) l.length c ∧ l ≠ [] ∧ b < H.n ∧ UT (H.f b) o (l.length * E.w) = some (E.cells l)
def Off (S : Nat → Prop) (v : Value) : Prop := ∀ b, Yk v = some b → ¬ S b
theorem Rd.keep {S : Nat → Prop} (r : Rd E H v l) (h : Fr S H H') (hs : Off S v) : Rd E H' v l := by
  rcases r with r | r | ⟨b, o, c, rfl, hl, hb, hc⟩
  · exact .inl r
  · exact .inr (.inl r)
  · exact .inr (.inr ⟨b, o, c, rfl, hl, Nat.lt_of_lt_of_le hb h.n, by rw [h.f hb (hs b rfl)]; exact hc⟩)
theorem Rd.still (r : Rd E H v l) (h : Yq H H') : Rd E H' v l := r.keep h fun _ _ h => h
theorem cutB_sub {k : Blk} {o n : Nat} {xs : List Value} (h : UT k o n = some xs) {i m : Nat} (hi : i + m ≤ n) : UT k (o + i) m = some ((xs.drop i).take m) := by
  unfold UT at h ⊢
  cases k with
  | cells ys e rw =>
    simp only at h ⊢
    split at h
    · cases h
      rw [if_pos (by omega), List.drop_take, List.take_take, List.drop_drop, Nat.min_eq_left (by omega)]
    · cases h
  | _ => cases h
theorem X2 {k : Blk} {o n : Nat} {xs : List Value} (h : UT k o n = some xs) {i : Nat} (hi : i < n) : X4 k (o + i) = xs[i]? := by
  unfold UT at h
  unfold X4
  cases k with
  | cells ys e rw =>
    simp only at h ⊢
    split at h
    · cases h
      rw [List.getElem?_take_of_lt hi, List.getElem?_drop]
    · cases h
  | _ => cases h
theorem Rd.elem (r : Rd E H v l) {i : Nat} (hi : i < l.length) : ∃ b o c, v = .slice (some ⟨b, o, none⟩) l.length c ∧ b < H.n ∧ UT (H.f b) (o + i * E.w) E.w = some (E.enc l[i]) := by
  rcases r with ⟨rfl, _⟩ | ⟨rfl, _⟩ | ⟨b, o, c, hv, hl, hb, hc⟩
  · simp at hi
  · simp at hi
  · refine ⟨b, o, c, hv, hb, ?_⟩
    rw [cutB_sub hc (i := i * E.w) (m := E.w) (by have := Nat.mul_le_mul_right E.w hi; rw [Nat.succ_mul] at this; exact this), E.cells_elem l i hi]
theorem Rd.shape (r : Rd E H v l) : ∃ a c, v = .slice a l.length c := by
  rcases r with ⟨rfl, rfl⟩ | ⟨rfl, a, k, rfl, _⟩ | ⟨b, o, c, rfl, hl, hb, hc⟩ <;> exact ⟨_, _, rfl⟩
theorem Rd.lenS (r : Rd E H v l) : Eng.lenS v = some (.int .i64 l.length) := by
  obtain ⟨a, c, rfl⟩ := r.shape
  rfl
theorem Rd.src (r : Rd E H v l) {sz : Nat} (hsz : sz = E.w) : Vn sz v H = some (l.length, E.cells l) := by
  subst hsz
  rcases r with ⟨rfl, rfl⟩ | ⟨rfl, ⟨b, o, s⟩, k, rfl, hs⟩ | ⟨b, o, c, rfl, hl, hb, hc⟩
  · rfl
  · simp only at hs
    subst hs
    rfl
  · unfold Vn
    have h0 : l.length ≠ 0 := fun h => hl (List.length_eq_zero_iff.1 h)
    simp only [h0, if_false, cut_b, hc, Option.map_some]
@[go_sem] theorem ixS_int {sz b o len code : Nat} {i : Int} {q : IntKind} (h : 0 ≤ i ∧ i < (len : Int)) : ixS sz (.slice (some ⟨b, o, none⟩) len code) (.int q i) = some (.pointer (some ⟨b, o + i.toNat * sz, none⟩)) := by
  unfold ixS
  simp only
  rw [if_pos h]
theorem ixS_nat {sz b o len code k : Nat} {q : IntKind} (h : k < len) : ixS sz (.slice (some ⟨b, o, none⟩) len code) (.int q (k : Int)) = some (.pointer (some ⟨b, o + k * sz, none⟩)) := by
  rw [ixS_int ⟨by omega, by omega⟩, Int.toNat_natCast]
attribute [go_sem] Int.toNat_natCast Nat.zero_mul Nat.mul_one
theorem Rd.ix (r : Rd E H v l) {i : Nat} (hi : i < l.length) {q : IntKind} : ∃ b o, ixS E.w v (.int q (i : Int)) = some (.pointer (some ⟨b, o, none⟩)) ∧ b < H.n ∧ UT (H.f b) o E.w = some (E.enc l[i]) ∧ Yk v = some b := by
  obtain ⟨b, o, c, rfl, hb, hc⟩ := r.elem hi
  exact ⟨b, o + i * E.w, ixS_nat hi, hb, hc, rfl⟩
def Own (E : Enc α) (H : AHeap) (e : TypeId) (v : Value) (l : List α) : Prop :=
  (l = [] ∧ v = .slice none 0 0) ∨ (l = [] ∧ ∃ a, v = .slice (some a) 0 0 ∧ a.spot = none ∧ a.block < H.n) ∨
  ∃ b o c xs, v = .slice (some ⟨b, o, none⟩) l.length (2 * c + 1) ∧ l.length ≤ c ∧ b < H.n ∧ H.f b = .cells xs e true ∧ o + c * E.w = xs.length ∧ (xs.drop o).take (l.length * E.w) = E.cells l
theorem Own.rd (r : Own E H e v l) : Rd E H v l := by
  rcases r with r | ⟨hl, a, h, hs, _⟩ | ⟨b, o, c, xs, rfl, hl, hb, hf, ho, hx⟩
  · exact .inl r
  · exact .inr (.inl ⟨hl, a, 0, h, hs⟩)
  · by_cases h0 : l = []
    · subst h0; exact .inr (.inl ⟨rfl, _, _, rfl, rfl⟩)
    · refine .inr (.inr ⟨b, o, _, rfl, h0, hb, ?_⟩)
      rw [hf]
      unfold UT
      simp only
      rw [if_pos (by have := Nat.mul_le_mul_right E.w hl; omega), hx]
theorem Own.keep {S : Nat → Prop} (r : Own E H e v l) (h : Fr S H H') (hs : Off S v) : Own E H' e v l := by
  rcases r with r | ⟨hl, a, hv, hsp, hb⟩ | ⟨b, o, c, xs, rfl, hl, hb, hf, ho, hx⟩
  · exact .inl r
  · exact .inr (.inl ⟨hl, a, hv, hsp, Nat.lt_of_lt_of_le hb h.n⟩)
  · exact .inr (.inr ⟨b, o, c, xs, rfl, hl, Nat.lt_of_lt_of_le hb h.n, by rw [h.f hb (hs b rfl)]; exact hf, ho, hx⟩)
theorem Own.cell (r : Own E H e v l) : Eng.one v = true := by
  rcases r with ⟨_, rfl⟩ | ⟨_, a, rfl, _, hb⟩ | ⟨b', o, c, xs, rfl, _, hb, _⟩ <;> rfl
theorem Own.blk (r : Own E H e v l) {b : Nat} (h : Yk v = some b) : b < H.n := by
  rcases r with ⟨_, rfl⟩ | ⟨_, a, rfl, _, hb⟩ | ⟨b', o, c, xs, rfl, _, hb, _⟩
  · cases h
  · cases h; exact hb
  · cases h; exact hb
theorem Own.still (r : Own E H e v l) (h : Yq H H') : Own E H' e v l := r.keep h fun _ _ h => h
def WP (v : Value) : Nat → Prop := fun b => Yk v = some b
theorem Fr.kill (H : AHeap) (b : Nat) : Fr (fun c => c = b) H (H.set b .dead) := (Fr.refl H).set b _ fun _ => rfl
theorem Own.app (r : Own E H e v l) {m : List α} (hm : m ≠ []) {sz bytes : Nat} (hsz : sz = E.w) (hb : (l.length + m.length) * bytes ≤ 140737488355328) (hn : l.length + m.length ≤ 140737488355328)
    {src : Option (Nat × List Value)} (hsrc : src = some (m.length, E.cells m)) :
    ∃ v' H', Eng.app e sz bytes v src H = some (v', H') ∧ Own E H' e v' (l ++ m) ∧ Fr (WP v) H H' ∧ (Yk v' = Yk v ∨ Yk v' = some H.n) ∧ gr 9 v' = false := by
  subst hsz hsrc
  have hm0 : m.length ≠ 0 := fun h => hm (List.length_eq_zero_iff.1 h)
  have hbig : ¬ ((l.length + m.length) * bytes > 140737488355328 ∨ l.length + m.length > 140737488355328) := by omega
  have hone := E.cells_one m
  rcases r with ⟨rfl, rfl⟩ | ⟨rfl, ⟨b, o, s⟩, rfl, hs, hbb⟩ | ⟨b, o, c, xs, rfl, hl, hbn, hf, ho, hx⟩
  · refine ⟨.slice (some ⟨H.n, 0, none⟩) m.length (2 * m.length + 1), H.push (.cells (E.cells m) e true), ?_, ?_, (Fr.refl H).push _, .inr rfl, rfl⟩
    · simp only [List.length_nil, Nat.zero_add] at hbig
      simp only [Eng.app, Option.bind_some, hm0, if_false, Nat.zero_add, hbig, Nat.zero_div, Nat.le_zero_eq, hone, Bool.true_eq_false, Qx, if_true, Nat.zero_mod, Option.map_some, List.nil_append]
    · refine .inr (.inr ⟨H.n, 0, m.length, E.cells m, by simp, by simp, by simp, by simp, by simp, ?_⟩)
      simp only [List.drop_zero, List.nil_append]
      rw [List.take_of_length_le (by simp)]
  · simp only at hs
    subst hs
    refine ⟨.slice (some ⟨H.n, 0, none⟩) m.length (2 * m.length + 1), H.push (.cells (E.cells m) e true), ?_, ?_, (Fr.refl H).push _, .inr rfl, rfl⟩
    · simp only [List.length_nil, Nat.zero_add] at hbig
      simp only [Eng.app, Option.bind_some, hm0, if_false, Nat.zero_add, hbig, Nat.zero_div, Nat.le_zero_eq, hone, Bool.true_eq_false, Qx, if_true, Nat.zero_mod, Option.map_some, List.nil_append]
    · refine .inr (.inr ⟨H.n, 0, m.length, E.cells m, by simp, by simp, by simp, by simp, by simp, ?_⟩)
      simp only [List.drop_zero, List.nil_append]
      rw [List.take_of_length_le (by simp)]
  · have hc2 : (2 * c + 1) / 2 = c := by omega
    have hc3 : (2 * c + 1) % 2 = 1 := by omega
    have hmulc := Nat.mul_le_mul_right E.w hl
    by_cases hroom : l.length + m.length ≤ c
    · have hmul := Nat.mul_le_mul_right E.w hroom
      rw [Nat.add_mul] at hmul
      refine ⟨.slice (some ⟨b, o, none⟩) (l.length + m.length) (2 * c + 1), H.set b (.cells (spl xs (o + l.length * E.w) (E.cells m)) e true), ?_, ?_, (Fr.refl H).set b _ fun _ => rfl, .inl rfl, rfl⟩
      · simp only [Eng.app, Option.bind_some, hm0, if_false, hbig, hc2, hroom, if_true, stL_b, hf]
        rw [wrL_c (by simp; omega) hone]
        rfl
      · refine .inr (.inr ⟨b, o, c, _, by simp, by simp; omega, by simpa using hbn, YC, ?_, ?_⟩)
        · rw [Xz, ho]
        · apply List.ext_getElem?
          intro j
          rw [List.length_append, Nat.add_mul]
          by_cases hj : j < l.length * E.w + m.length * E.w
          · rw [List.getElem?_take_of_lt hj, List.getElem?_drop, QJ _ _ _ _ (by simp; omega), E.cells_append, List.getElem?_append, E.cells_len, E.cells_len]
            by_cases h1 : j < l.length * E.w
            · rw [if_neg (by omega), if_pos h1, ← hx, List.getElem?_take_of_lt h1, List.getElem?_drop]
            · rw [if_pos (by omega), if_neg h1, show o + j - (o + l.length * E.w) = j - l.length * E.w by omega]
          · rw [List.getElem?_eq_none (by simp; omega), List.getElem?_eq_none (by simp [Nat.add_mul]; omega)]
    · refine ⟨.slice (some ⟨H.n, 0, none⟩) (l.length + m.length) (2 * (l.length + m.length) + 1), (H.set b .dead).push (.cells (E.cells l ++ E.cells m) e true), ?_, ?_, Fr.push (Fr.set (S := WP (.slice (some ⟨b, o, none⟩) l.length (2 * c + 1))) (Fr.refl H) b _ (fun _ => rfl)) _, .inr rfl, rfl⟩
      · have hold : Qx E.w l.length H (some ⟨b, o, none⟩) = some (E.cells l) := by
          unfold Qx
          split
          · rename_i h0; rw [List.length_eq_zero_iff.1 h0]; rfl
          · simp only [cut_b, hf]
            rw [cutB_c (by omega), hx]
        have hkill : kill H e c E.w (some ⟨b, o, none⟩) = some (H.set b .dead) := by
          unfold kill
          simp only [hf, true_and, ho, if_true]
        simp only [Eng.app, Option.bind_some, hm0, if_false, hbig, hc2, hroom, hone, Bool.true_eq_false, hold, hc3, Nat.one_ne_zero, hkill, Option.map_some, set_n']
      · refine .inr (.inr ⟨H.n, 0, l.length + m.length, E.cells l ++ E.cells m, by simp, by simp, by simp, Yu rfl, by simp [Nat.add_mul], ?_⟩)
        simp only [List.drop_zero]
        rw [List.take_of_length_le (by simp [Nat.add_mul]), E.cells_append]
theorem Own.drop (r : Own E H e v l) {sz : Nat} (hsz : sz = E.w) {i : Nat} (hi : i ≤ l.length) {q : IntKind} : ∃ v', slS e sz v (some (.int q (i : Int))) none none H = some v' ∧ Own E H e v' (l.drop i) ∧ Yk v' = Yk v := by
  subst hsz
  rcases r with ⟨rfl, rfl⟩ | ⟨rfl, ⟨b, o, s⟩, rfl, hs, hbb⟩ | ⟨b, o, c, xs, rfl, hl, hbn, hf, ho, hx⟩
  · simp only [List.length_nil, Nat.le_zero_eq] at hi
    subst hi
    exact ⟨.slice none 0 0, rfl, .inl ⟨by simp, rfl⟩, rfl⟩
  · simp only at hs
    subst hs
    simp only [List.length_nil, Nat.le_zero_eq] at hi
    subst hi
    exact ⟨.slice (some ⟨b, o, none⟩) 0 0, by simp [slS, Wl, WN, bnd], .inr (.inl ⟨by simp, _, rfl, rfl, hbb⟩), rfl⟩
  · have hc2 : (2 * c + 1) / 2 = c := by omega
    have hmul := Nat.mul_le_mul_right E.w hl
    have hmi := Nat.mul_le_mul_right E.w hi
    refine ⟨.slice (some ⟨b, o + i * E.w, none⟩) (l.length - i) (2 * (c - i) + 1), ?_, .inr (.inr ⟨b, o + i * E.w, c - i, xs, by simp, by simp; omega, hbn, hf, by rw [Nat.sub_mul]; omega, ?_⟩), rfl⟩
    · simp only [slS, Wl, WN, bnd, hc2, Option.bind_some, show (0 : Int) ≤ (i : Int) ∧ (i : Int) ≤ (l.length : Nat) from ⟨by omega, by omega⟩, Int.toNat_natCast, hl, hf, Qy, show (2 * c + 1) % 2 = 1 by omega]
      simp
    · rw [List.length_drop, Nat.sub_mul, ← E.cells_drop, ← hx, List.drop_take, List.drop_drop]
theorem Own.front (r : Own E H e v l) {sz : Nat} (hsz : sz = E.w) {i : Nat} (hi : i ≤ l.length) {q : IntKind} : ∃ v', slS e sz v none (some (.int q (i : Int))) (some (.int q (i : Int))) H = some v' ∧ Rd E H v' (l.take i) ∧ Yk v' = Yk v := by
  subst hsz
  rcases r with ⟨rfl, rfl⟩ | ⟨rfl, ⟨b, o, s⟩, rfl, hs, hbb⟩ | ⟨b, o, c, xs, rfl, hl, hbn, hf, ho, hx⟩
  · simp only [List.length_nil, Nat.le_zero_eq] at hi
    subst hi
    exact ⟨.slice none 0 0, rfl, .inl ⟨by simp, rfl⟩, rfl⟩
  · simp only at hs
    subst hs
    simp only [List.length_nil, Nat.le_zero_eq] at hi
    subst hi
    exact ⟨.slice (some ⟨b, o, none⟩) 0 0, by simp [slS, WN, bnd], .inr (.inl ⟨by simp, _, _, rfl, rfl⟩), rfl⟩
  · have hc2 : (2 * c + 1) / 2 = c := by omega
    have hmul := Nat.mul_le_mul_right E.w hl
    have hmi := Nat.mul_le_mul_right E.w hi
    have hval : slS e E.w (.slice (some ⟨b, o, none⟩) l.length (2 * c + 1)) none (some (.int q (i : Int))) (some (.int q (i : Int))) H = some (.slice (some ⟨b, if i = 0 then o else o + 0 * E.w, none⟩) (i - 0) (2 * (i - 0))) := by
      simp only [slS, WN, bnd, hc2, Option.bind_some, show (0 : Int) ≤ (i : Int) ∧ (i : Int) ≤ (c : Nat) from ⟨by omega, by omega⟩, show (0 : Int) ≤ (i : Int) ∧ (i : Int) ≤ (i : Nat) from ⟨by omega, by omega⟩, Int.toNat_natCast, and_self, if_true, Option.map_some]
    refine ⟨_, hval, ?_, rfl⟩
    have e1 : (if i = 0 then o else o + 0 * E.w) = o := by split <;> omega
    rw [e1, Nat.sub_zero]
    by_cases h0 : i = 0
    · subst h0; exact .inr (.inl ⟨by simp, _, _, rfl, rfl⟩)
    · have hlen : (l.take i).length = i := by simp; omega
      refine .inr (.inr ⟨b, o, 2 * i, by rw [hlen], fun h => h0 (by rw [← hlen, h]; rfl), hbn, ?_⟩)
      rw [hlen, hf, cutB_c (by omega), ← E.cells_take, ← hx, List.take_take, Nat.min_eq_left hmi]
end Go.Proofs.YtmiinbhnfojnbaaDoor.Eng

namespace Go.Proofs.YtmiinbhnfojnbaaDoor.Eng
open Go
variable {P : Program} {H : AHeap}
theorem xbin_gr {op : BinOp} {t : TypeId} {ox oy : Operand} {q q' : IntKind} {a b : Int} {v : Value} (h : pv P (do eqGuard op t ox oy (.int q a) (.int q' b); binOp op t (.int q a) (.int q' b)) = some v) (hg : gr 9 v = true) :
    Yf P op t ox oy (.int q a) (.int q' b) = some v := by
  have e : Yf P op t ox oy (.int q a) (.int q' b) = pvg P (do eqGuard op t ox oy (.int q a) (.int q' b); binOp op t (.int q a) (.int q' b)) := rfl
  rw [e, ZW h hg]
@[go_sem] theorem shr_lit {t : TypeId} {ox oy : Operand} {q q' : IntKind} {a b : Int} (h : 0 ≤ b ∧ b < 8) : Yf P .shr t ox oy (.int q a) (.int q' b) = some (.int q (a / 2 ^ b.toNat)) := by
  refine xbin_gr ?_ rfl
  have hb : ¬ b < 0 := by omega
  have hm : min b.toNat q.bits = b.toNat := by cases q <;> simp [IntKind.bits] <;> omega
  simp [eqGuard, binOp, Op.shift, Bind.bind, Sem.bind, Pure.pure, pv, hb, hm]
  rw [Int.fdiv_eq_ediv_of_nonneg]
  exact Int.pow_nonneg (by decide)
theorem QT {n : Int} (h1 : 0 ≤ n ∧ n < 18446744073709551616) : IntKind.wrap .u64 n = n := by
  unfold IntKind.wrap
  simp only [IntKind.bits, IntKind.signed, Bool.false_and]
  simp
  omega
theorem wrap_u32 {n : Int} (h1 : 0 ≤ n ∧ n < 4294967296) : IntKind.wrap .u32 n = n := by
  unfold IntKind.wrap
  simp only [IntKind.bits, IntKind.signed, Bool.false_and]
  simp
  omega
theorem wrap_u8 {n : Int} (h1 : 0 ≤ n ∧ n < 256) : IntKind.wrap .u8 n = n := by
  unfold IntKind.wrap
  simp only [IntKind.bits, IntKind.signed, Bool.false_and]
  simp
  omega
attribute [go_sem] XE QT wrap_u32 wrap_u8
end Go.Proofs.YtmiinbhnfojnbaaDoor.Eng

namespace Go.Proofs.YtmiinbhnfojnbaaDoor.Eng
open Go
variable {P : Program} {α : Type} {E : Enc α} {H H' : AHeap} {v : Value} {l : List α} {e : TypeId}
theorem Qz {y i : Nat} {q : IntKind} (h : i ≤ y) : bnd y (.int q (i : Int)) = some i := by
  unfold bnd
  simp only [Int.toNat_natCast]
  rw [if_pos ⟨by omega, by omega⟩]
theorem sl_lo {b o n c i sz : Nat} {q : IntKind} {xs : List Value} (hf : H.f b = .cells xs e true) (hi : i ≤ n) (hn : n ≤ c) :
    slS e sz (.slice (some ⟨b, o, none⟩) n (2 * c + 1)) (some (.int q (i : Int))) none none H = some (.slice (some ⟨b, o + i * sz, none⟩) (n - i) (2 * (c - i) + 1)) := by
  simp only [slS, Wl, WN, Qz hi, show (2 * c + 1) / 2 = c by omega, Option.bind_some, hn, if_true, show ¬ ((2 * c + 1) % 2 = 0) by omega, if_false, hf, Qy, beq_self_eq_true]
theorem sl_hi {b o n c i sz : Nat} {q : IntKind} {xs : List Value} (hf : H.f b = .cells xs e true) (hi : i ≤ c) :
    slS e sz (.slice (some ⟨b, o, none⟩) n (2 * c + 1)) none (some (.int q (i : Int))) none H = some (.slice (some ⟨b, o, none⟩) i (2 * c + 1)) := by
  simp only [slS, Wl, WN, show (2 * c + 1) / 2 = c by omega, Qz hi, Option.bind_some, hi, if_true, show ¬ ((2 * c + 1) % 2 = 0) by omega, if_false, hf, Qy, beq_self_eq_true]
  simp
theorem sl_lohi {b o n c i j sz : Nat} {q q' : IntKind} {xs : List Value} (hf : H.f b = .cells xs e true) (hi : i ≤ j) (hj : j ≤ c) :
    slS e sz (.slice (some ⟨b, o, none⟩) n (2 * c + 1)) (some (.int q (i : Int))) (some (.int q' (j : Int))) none H = some (.slice (some ⟨b, o + i * sz, none⟩) (j - i) (2 * (c - i) + 1)) := by
  simp only [slS, Wl, WN, show (2 * c + 1) / 2 = c by omega, Qz hj, Qz hi, Option.bind_some, hj, if_true, show ¬ ((2 * c + 1) % 2 = 0) by omega, if_false, hf, Qy, beq_self_eq_true]
theorem sl_three {b o n c i j m sz : Nat} {q q' q'' : IntKind} (hi : i ≤ j) (hj : j ≤ m) (hm : m ≤ c) :
    slS e sz (.slice (some ⟨b, o, none⟩) n (2 * c + 1)) (some (.int q (i : Int))) (some (.int q' (j : Int))) (some (.int q'' (m : Int))) H = some (.slice (some ⟨b, if m = i then o else o + i * sz, none⟩) (j - i) (2 * (m - i))) := by
  simp only [slS, WN, show (2 * c + 1) / 2 = c by omega, Qz hm, Qz hj, Qz hi, Option.bind_some, Option.map_some]
theorem Enc.cells_ins (E : Enc α) (l m : List α) (i : Nat) : E.cells (l.take i ++ (m ++ l.drop i)) = E.cells (l.take i) ++ (E.cells m ++ E.cells (l.drop i)) := by
  rw [E.cells_append, E.cells_append]
theorem zeros_all {z : List Value} (h : z.all one = true) : ∀ n, (zeros z n).all one = true
  | 0 => rfl
  | n + 1 => by rw [zeros, List.all_append, h, zeros_all h n]; rfl
theorem insS_own {el : TypeId} {z : List Value} {b o c i bv ov cv : Nat} {xs ys : List Value} {ev : TypeId} {m : List α} (hz : z.length = E.w) (hzo : z.all one = true)
    (hl : l.length ≤ c) (hb : b < H.n) (hf : H.f b = .cells xs el true) (ho : o + c * E.w = xs.length) (hx : (xs.drop o).take (l.length * E.w) = E.cells l)
    (hi : i < l.length) (hm : m ≠ []) (hfv : H.f bv = .cells ys ev true) (hbv : bv ≠ b) (htq : tailQ P ev = 1) (hy : ov + m.length * E.w ≤ ys.length) (hyc : (ys.drop ov).take (m.length * E.w) = E.cells m)
    (h1 : (l.length + m.length) * P.bytesOf el ≤ 140737488355328) (h2 : l.length + m.length ≤ 140737488355328) :
    ∃ v' H', insS P el z [.slice (some ⟨b, o, none⟩) l.length (2 * c + 1), .int .i64 (i : Int), .slice (some ⟨bv, ov, none⟩) m.length cv] H = some (v', H') ∧ Own E H' el v' (l.take i ++ (m ++ l.drop i)) ∧
      Fr (fun x => x = b) H H' ∧ (Yk v' = some b ∨ Yk v' = some H.n) := by
  have hw := E.pos
  have hm0 : m.length ≠ 0 := fun h => hm (List.length_eq_zero_iff.1 h)
  have hc2 : (2 * c + 1) / 2 = c := by omega
  have hmul := Nat.mul_le_mul_right E.w hl
  have hmi := Nat.mul_le_mul_right E.w (Nat.le_of_lt hi)
  have hsub : (l.length - i) * E.w = l.length * E.w - i * E.w := Nat.sub_mul ..
  have htail : (xs.drop (o + i * E.w)).take ((l.length - i) * E.w) = E.cells (l.drop i) := by
    rw [← E.cells_drop, ← hx, List.drop_take, List.drop_drop, hsub]
  have hhead : (xs.drop o).take (i * E.w) = E.cells (l.take i) := by
    rw [← E.cells_take, ← hx, List.take_take, Nat.min_eq_left hmi]
  have hxpos : 0 < xs.length := by
    have : 0 < l.length := by omega
    have := Nat.mul_pos this hw
    omega
  have hcond : (2 * c + 1) % 2 = 1 ∧ True ∧ i < l.length ∧ l.length ≤ (2 * c + 1) / 2 ∧ m.length ≠ 0 ∧ (l.length + m.length) * P.bytesOf el ≤ 140737488355328 ∧ l.length + m.length ≤ 140737488355328 ∧ bv ≠ b ∧ tailQ P ev = 1 ∧ o + (2 * c + 1) / 2 * z.length = xs.length ∧
          ov + m.length * z.length ≤ ys.length ∧ 0 < xs.length ∧ ((ys.drop ov).take (m.length * z.length)).all one = true ∧ ((xs.drop (o + i * z.length)).take ((l.length - i) * z.length)).all one = true ∧ (zeros z (l.length + m.length - i)).all one = true := by
    rw [hc2, hz]
    exact ⟨by omega, trivial, hi, hl, hm0, h1, h2, hbv, htq, ho, hy, hxpos, by rw [hyc]; exact E.cells_one m, by rw [htail]; exact E.cells_one _, zeros_all hzo _⟩
  have hval : insS P el z [.slice (some ⟨b, o, none⟩) l.length (2 * c + 1), .int .i64 (i : Int), .slice (some ⟨bv, ov, none⟩) m.length cv] H =
      if l.length + m.length ≤ c then
          some (.slice (some ⟨b, o, none⟩) (l.length + m.length) (2 * c + 1),
            (H.set b (.cells (spl xs (o + (i + m.length) * E.w) (E.cells (l.drop i))) el true)).set b
              (.cells (spl (spl xs (o + (i + m.length) * E.w) (E.cells (l.drop i))) (o + i * E.w) (E.cells m)) el true))
        else some (.slice (some ⟨H.n, 0, none⟩) (l.length + m.length) (2 * (l.length + m.length) + 1),
            (H.set b .dead).push (.cells (E.cells (l.take i) ++ (E.cells m ++ E.cells (l.drop i))) el true)) := by
    show (match H.f b, H.f bv with
      | .cells xs e true, .cells ys ev true => _
      | _, _ => none) = _
    rw [hf, hfv]
    simp only
    rw [if_pos hcond]
    simp only [hc2, hz, htail, hhead, hyc]
  have hlen3 : (l.take i ++ (m ++ l.drop i)).length = l.length + m.length := by simp; omega
  rw [hval]
  by_cases hroom : l.length + m.length ≤ c
  · rw [if_pos hroom]
    have hmulr := Nat.mul_le_mul_right E.w hroom
    rw [Nat.add_mul] at hmulr
    refine ⟨_, _, rfl, ?_, Fr.set (S := fun x => x = b) (Fr.set (Fr.refl H) b _ (fun _ => rfl)) b _ (fun _ => rfl), .inl rfl⟩
    refine .inr (.inr ⟨b, o, c, _, by rw [hlen3], by rw [hlen3]; exact hroom, hb, YC, by rw [Xz, Xz, ho], ?_⟩)
    rw [hlen3, E.cells_ins]
    have hA : i * E.w + m.length * E.w + (l.length - i) * E.w = (l.length + m.length) * E.w := by rw [hsub, Nat.add_mul]; omega
    have hcl : (E.cells (l.drop i)).length = (l.length - i) * E.w := by simp
    have hclm : (E.cells m).length = m.length * E.w := by simp
    have hins := fun j hj => ins_cells (xs := xs) (new := E.cells m) (o := o) (A := i * E.w) (M := m.length * E.w) (T := (l.length - i) * E.w) (by omega) hclm (j := j) hj
    apply List.ext_getElem?
    intro j
    by_cases hj : j < (l.length + m.length) * E.w
    · rw [List.getElem?_take_of_lt hj, List.getElem?_drop]
      have := hins j (by rw [hA]; exact hj)
      rw [htail, hhead] at this
      rw [show o + (i + m.length) * E.w = o + (i * E.w + m.length * E.w) by rw [Nat.add_mul]]
      exact this
    · have hlt : (E.cells (l.take i)).length = i * E.w := by rw [E.cells_len, List.length_take, Nat.min_eq_left (Nat.le_of_lt hi)]
      rw [List.getElem?_eq_none (by simp only [List.length_take]; omega), List.getElem?_eq_none (by rw [List.length_append, List.length_append, hlt, hclm, hcl]; omega)]
  · rw [if_neg hroom]
    refine ⟨_, _, rfl, ?_, Fr.push (Fr.set (S := fun x => x = b) (Fr.refl H) b _ (fun _ => rfl)) _, .inr rfl⟩
    refine .inr (.inr ⟨H.n, 0, l.length + m.length, _, by rw [hlen3], by rw [hlen3]; exact Nat.le_refl _, by simp, Yu rfl, ?_, ?_⟩)
    · rw [List.length_append, List.length_append, E.cells_len, E.cells_len, E.cells_len, List.length_take, List.length_drop, Nat.min_eq_left (Nat.le_of_lt hi), hsub, Nat.add_mul]; omega
    · rw [hlen3, E.cells_ins, List.drop_zero]
      apply List.take_of_length_le
      rw [List.length_append, List.length_append, E.cells_len, E.cells_len, E.cells_len, List.length_take, List.length_drop, Nat.min_eq_left (Nat.le_of_lt hi), hsub, Nat.add_mul]; omega
theorem del_cells {xs z : List Value} {o i : Nat} (hz : z.length = E.w) (hi : i < l.length) (hxl : o + l.length * E.w ≤ xs.length) (hx : (xs.drop o).take (l.length * E.w) = E.cells l) :
    ((spl (spl xs (o + i * E.w) (E.cells (l.drop (i + 1)))) (o + (l.length - 1) * E.w) z).drop o).take ((l.take i ++ l.drop (i + 1)).length * E.w) = E.cells (l.take i ++ l.drop (i + 1)) := by
  have hlen : (l.take i ++ l.drop (i + 1)).length = l.length - 1 := by simp; omega
  have hm1 : (l.length - 1) * E.w = l.length * E.w - E.w := by rw [Nat.sub_mul, Nat.one_mul]
  have hm2 : (l.length - (i + 1)) * E.w = l.length * E.w - (i * E.w + E.w) := by rw [Nat.sub_mul, Nat.add_mul, Nat.one_mul]
  have hm3 : (i + 1) * E.w ≤ l.length * E.w := Nat.mul_le_mul_right _ hi
  rw [Nat.add_mul, Nat.one_mul] at hm3
  have hcl : (E.cells (l.drop (i + 1))).length = l.length * E.w - (i * E.w + E.w) := by rw [E.cells_len, List.length_drop, hm2]
  have hct : (E.cells (l.take i)).length = i * E.w := by rw [E.cells_len, List.length_take, Nat.min_eq_left (Nat.le_of_lt hi)]
  rw [hlen, hm1, E.cells_append]
  apply List.ext_getElem?
  intro j
  by_cases hj : j < l.length * E.w - E.w
  · rw [List.getElem?_take_of_lt hj, List.getElem?_drop, QJ _ _ _ _ (by rw [Xz, hz]; omega), if_neg (by omega), QJ _ _ _ _ (by rw [hcl]; omega), hcl, List.getElem?_append, hct]
    by_cases h1 : j < i * E.w
    · rw [if_neg (by omega), if_pos h1, ← E.cells_take, List.getElem?_take_of_lt h1, ← hx, List.getElem?_take_of_lt (by omega), List.getElem?_drop]
    · rw [if_pos (by omega), if_neg h1, show o + j - (o + i * E.w) = j - i * E.w by omega]
  · rw [List.getElem?_eq_none (by simp only [List.length_take]; omega), List.getElem?_eq_none (by rw [List.length_append, hct, hcl]; omega)]
def Q3 : DCode → Bool
  | .seq a b => Q3 a && Q3 b
  | .cond _ _ a b => Q3 a && Q3 b
  | .block _ _ b => Q3 b
  | .loop _ _ => false
  | _ => true
theorem VX {N n : Nat} {call : Yc} : ∀ (c : DCode), Q3 c = true → Y5 P N call n c = XA P N call c
  | .skip, _ => rfl
  | .region _ _ _, _ => rfl
  | .seq a b, h => by
    simp only [Q3, Bool.and_eq_true] at h
    funext T H
    rw [Y5, XA, VX a h.1, VX b h.2]
    rfl
  | .cond keep c a b, h => by
    simp only [Q3, Bool.and_eq_true] at h
    funext T H
    rw [Y5, XA, VX a h.1, VX b h.2]
    rfl
  | .block keep id b, h => by
    funext T H
    rw [Y5, XA, VX b h]
    rfl
  | .loop _ _, h => by simp [Q3] at h
  | .exit _, _ => rfl
  | .ret _, _ => rfl
  | .bad _, _ => rfl
theorem dBody_noLoop {hints : WE} {call : Yc} {n : Nat} {f : FuncId} {args : List Value} (h : Q3 (codeOf P hints f) = true) : Qk P hints call n f args H = Yy Yd P hints call Yo f args H := by
  unfold codeOf at h
  unfold Qk Yy
  cases hf : P.funcs[f]? with
  | none => rfl
  | some fn =>
    rw [hf] at h
    simp only at h ⊢
    cases hb : fn.body with
    | none => rfl
    | some c =>
      rw [hb] at h
      simp only at h ⊢
      rw [WQ, VX _ h]
      congr 1
      funext r
      obtain ⟨x, T, H⟩ := r
      cases x with
      | normal => simp only [Yi]; rw [Ww]; cases Wt P H T _ <;> rfl
      | exit i => rfl
      | ret => simp only [Yi]; rw [Ww]; cases Wt P H T _ <;> rfl
@[go_sem, go_sem ↓] theorem nextK_none {call : Yc} {k : Value → AHeap → Res} : Va call H none k = none := _root_.id rfl
@[go_sem, go_sem ↓] theorem bareK_none {k : Value → AHeap → Res} : Yb none H k = none := _root_.id rfl
theorem cap_odd {t : TypeId} {b o n c : Nat} : YN P .cap [t] [.slice (some ⟨b, o, none⟩) n (2 * c + 1)] H = none := by
  show bare (xcap P [t] (.slice (some ⟨b, o, none⟩) n (2 * c + 1))) H = none
  have : xcap P [t] (.slice (some ⟨b, o, none⟩) n (2 * c + 1)) = none := by
    unfold xcap
    simp only
    split
    · rename_i h; cases h
    · rename_i h
      cases h
      rw [if_neg (by omega)]
    · rfl
  rw [this]; rfl
end Go.Proofs.YtmiinbhnfojnbaaDoor.Eng

namespace Go.Proofs.YtmiinbhnfojnbaaDoor.Eng
open Go
variable {P : Program} {H : AHeap}
theorem pv_bind {α β : Type} {P : Program} : ∀ (s : Sem α) (f : α → Sem β), pv P (s.bind f) = (pv P s).bind fun a => pv P (f a)
  | .pure a, f => rfl
  | .program k, f => pv_bind (k P) f
  | .load m a k, f => rfl
  | .store m a v k, f => rfl
  | .new o k, f => rfl
  | .shape r k, f => rfl
  | .freeze a n k, f => rfl
  | .frozen a k, f => rfl
  | .getObj r k, f => rfl
  | .setObj r o k, f => rfl
  | .choose q k, f => rfl
  | .sys c k, f => rfl
  | .mark m k, f => rfl
  | .halt h, f => rfl
theorem Ve {α β : Type} (s : Sem α) (f : α → Sem β) : pv P (s >>= f) = (pv P s).bind fun a => pv P (f a) := pv_bind s f
theorem Qe {α : Type} (a : α) : pv P (pure a : Sem α) = some a := rfl
theorem pv_program : pv P program = some P := rfl
theorem pv_ite {α : Type} {c : Prop} [Decidable c] (a b : Sem α) : pv P (if c then a else b) = if c then pv P a else pv P b := by split <;> rfl
theorem Zv {t : TypeId} {d : TypeDesc} (h : P.underlying t = some d) : pv P (underlying t) = some d := by
  unfold underlying
  simp only [Ve, pv_program, Option.bind_some, h]
  rfl
def ceq : Value → Value → Bool
  | .int _ a, .int _ b => decide (a = b)
  | .string a, .string b => decide (bl a = bl b)
  | .bool a, .bool b => a == b
  | _, _ => false
def ceqs : List Value → List Value → Bool
  | [], [] => true
  | a :: x, b :: y => ceq a b && ceqs x y
  | _, _ => false
def fitC (P : Program) (t : TypeId) (v w : Value) : Bool :=
  match P.underlying t, v, w with
  | some (.int _), .int k _, .int k' _ => k == k'
  | some .string, .string _, .string _ => true
  | some .bool, .bool _, .bool _ => true
  | _, _, _ => false
def fits (P : Program) : List Field → Nat → List Value → List Value → Bool
  | [], _, [], [] => true
  | f :: fs, i, a :: x, b :: y => f.name != "_" && f.offset == i && fitC P f.type a b && fits P fs (i + 1) x y
  | _, _, _, _ => false
theorem bytes_beq (a b : ByteArray) : (a == b) = decide (bl a = bl b) := by
  rw [beq_toListBytes, ByteArray.toList_eq, ByteArray.toList_eq, Bool.beq_eq_decide_eq]
  rfl
theorem pv_cell {t : TypeId} {d : Nat} {a b : Value} (h : fitC P t a b = true) : pv P (Op.equalIn (d + 1) t a b) = some (ceq a b) := by
  unfold fitC at h
  split at h
  · rename_i k k1 x k2 y hu
    have hk : k1 = k2 := by simpa using h
    subst hk
    simp only [Op.equalIn, Ve, Zv hu, Option.bind_some, if_true, Qe, ceq, Bool.beq_eq_decide_eq]
  · rename_i x y hu
    simp only [Op.equalIn, Ve, Zv hu, Option.bind_some, Qe, ceq, bytes_beq]
  · rename_i x y hu
    simp only [Op.equalIn, Ve, Zv hu, Option.bind_some, Qe, ceq]
  · cases h
theorem pv_part {t : TypeId} {a b : Value} (h : fitC P t a b = true) {xs : Array Value} {o : Nat} {v : Value} (hx : xs[o]? = some v) : pv P (part t xs o) = some v := by
  have hagg : pv P (isAgg t) = some false := by
    unfold isAgg
    unfold fitC at h
    split at h
    · rename_i hu; simp only [Ve, Zv hu, Option.bind_some]; rfl
    · rename_i hu; simp only [Ve, Zv hu, Option.bind_some]; rfl
    · rename_i hu; simp only [Ve, Zv hu, Option.bind_some]; rfl
    · cases h
  unfold part
  simp only [Ve, hagg, Option.bind_some, Bool.false_eq_true, if_false, hx, Qe]
theorem pv_eqFields {d : Nat} : ∀ (fs : List Field) (i : Nat) (xs ys : Array Value) (x y : List Value), (∀ j, xs[i + j]? = x[j]?) → (∀ j, ys[i + j]? = y[j]?) → fits P fs i x y = true →
    pv P (Op.eqFields (d + 1) xs ys fs) = some (ceqs x y)
  | [], i, xs, ys, [], [], _, _, _ => rfl
  | f :: fs, i, xs, ys, a :: x, b :: y, hx, hy, h => by
    simp only [fits, Bool.and_eq_true, bne_iff_ne, ne_eq, beq_iff_eq] at h
    obtain ⟨⟨⟨h1, h2⟩, h3⟩, h4⟩ := h
    have ha : xs[i]? = some a := by simpa using hx 0
    have hb : ys[i]? = some b := by simpa using hy 0
    have ih := pv_eqFields (d := d) fs (i + 1) xs ys x y (fun j => by rw [show i + 1 + j = i + (j + 1) by omega, hx]; rfl) (fun j => by rw [show i + 1 + j = i + (j + 1) by omega, hy]; rfl) h4
    rw [Op.eqFields]
    simp only [ne_eq, h1, not_false_eq_true, if_true, Ve, h2, pv_part h3 ha, pv_part h3 hb, Option.bind_some, pv_cell h3, pv_ite, Qe, ih, ceqs]
    cases ceq a b <;> simp
  | [], _, _, _, _ :: _, _, _, _, h => by simp [fits] at h
  | [], _, _, _, [], _ :: _, _, _, h => by simp [fits] at h
  | _ :: _, _, _, _, [], _, _, _, h => by simp [fits] at h
  | _ :: _, _, _, _, _ :: _, [], _, _, h => by simp [fits] at h
theorem pv_equalIn_struct {d : Nat} {t : TypeId} {fs : Array Field} (xs ys : Array Value) (ht : P.underlying t = some (.struct fs)) (hp : P.stoodInHeld t = false) :
    pv P (Op.equalIn (d + 1) t (.agg xs) (.agg ys)) = pv P (Op.eqFields d xs ys fs.toList) := by
  simp only [Op.equalIn, Ve, Zv ht, pv_program, Option.bind_some, hp, Bool.false_eq_true, if_false]
  rw [← Array.forIn_toList]
  generalize fs.toList = l
  clear ht
  induction l with
  | nil => simp [Op.eqFields, Qe]
  | cons f l ih =>
    simp only [List.forIn_cons, Op.eqFields, Ve, pv_ite]
    split
    · cases pv P (part f.type xs f.offset) with
      | none => rfl
      | some a =>
        simp only [Option.bind_some]
        cases pv P (part f.type ys f.offset) with
        | none => rfl
        | some b =>
          simp only [Option.bind_some]
          cases pv P (Op.equalIn d f.type a b) with
          | none => rfl
          | some r =>
            cases r
            · simp [Qe]
            · simp only [Option.bind_some, Bool.not_true, Bool.false_eq_true, if_false, Qe]
              exact ih
    · simp only [Qe, Option.bind_some]
      exact ih
theorem pv_equal {t : TypeId} {fs : Array Field} {xs ys : List Value} (ht : P.underlying t = some (.struct fs)) (hp : P.stoodInHeld t = false) (hf : fits P fs.toList 0 xs ys = true) :
    pv P (Op.equal t (.agg ⟨xs⟩) (.agg ⟨ys⟩)) = some (ceqs xs ys) := by
  have h := pv_equalIn_struct (P := P) (d := 9999) (t := t) ⟨xs⟩ ⟨ys⟩ ht hp
  have h2 := pv_eqFields (P := P) (d := 9998) fs.toList 0 ⟨xs⟩ ⟨ys⟩ xs ys (fun j => by simp) (fun j => by simp) hf
  exact h.trans h2
theorem agg_eq {t : TypeId} {fs : Array Field} {xs ys : List Value} {ox oy : Operand} (ht : P.underlying t = some (.struct fs)) (hp : P.stoodInHeld t = false) (hg : P.eqGuardType P.depth t = false) (hf : fits P fs.toList 0 xs ys = true)
    (g1 : gr 9 (.agg ⟨xs⟩) = true) (g2 : gr 9 (.agg ⟨ys⟩) = true) : Yf P .eql t ox oy (.agg ⟨xs⟩) (.agg ⟨ys⟩) = some (.bool (ceqs xs ys)) := by
  have e : Yf P .eql t ox oy (.agg ⟨xs⟩) (.agg ⟨ys⟩) = if gr 9 (.agg ⟨xs⟩) && gr 9 (.agg ⟨ys⟩) then pvg P (do eqGuard .eql t ox oy (.agg ⟨xs⟩) (.agg ⟨ys⟩); binOp .eql t (.agg ⟨xs⟩) (.agg ⟨ys⟩)) else (Gg P t (.agg ⟨xs⟩) (.agg ⟨ys⟩)).map .bool := rfl
  rw [e, g1, g2]
  simp only [Bool.and_self, if_true]
  refine ZW ?_ rfl
  simp only [eqGuard, binOp, Ve, pv_program, Option.bind_some, hg, Bool.not_false, if_true, Qe, Bool.not_true, Bool.false_eq_true, if_false, pv_equal ht hp hf]
end Go.Proofs.YtmiinbhnfojnbaaDoor.Eng

namespace Go.Proofs.YtmiinbhnfojnbaaDoor.Eng
open Go
theorem any_of {X : Res} {H H1 : AHeap} {v : Value} (h : X = some (tidy H (v, H1))) : ∃ H', X = some (v, H') := by
  unfold tidy at h
  split at h
  · exact ⟨_, h⟩
  · exact ⟨_, h⟩
end Go.Proofs.YtmiinbhnfojnbaaDoor.Eng

namespace Go.Proofs.YtmiinbhnfojnbaaDoor.Eng
open Go
variable {P : Program} {H H' : AHeap}
theorem tdiv_pos {a b : Int} (h0 : 0 ≤ a) (h : 0 < b) : a.tdiv b = a / b := Int.tdiv_eq_ediv_of_nonneg h0
theorem tmod_pos {a b : Int} (h0 : 0 ≤ a) : a.tmod b = a % b := Int.tmod_eq_emod_of_nonneg h0
@[go_sem] theorem remP {t : TypeId} {ox oy : Operand} {q : IntKind} {a b : Int} (h0 : 0 ≤ a) (h : 0 < b) : Yf P .rem t ox oy (.int q a) (.int q b) = some (.int q (a % b)) := by
  have hb : b ≠ 0 := by omega
  refine xbin_gr ?_ rfl
  simp [eqGuard, binOp, Op.intDiv, Bind.bind, Sem.bind, Pure.pure, pv, hb, tmod_pos h0]
@[go_sem] theorem quoP {t : TypeId} {ox oy : Operand} {q : IntKind} {a b : Int} (h0 : 0 ≤ a) (h : 0 < b) : Yf P .quo t ox oy (.int q a) (.int q b) = some (.int q (q.wrap (a / b))) := by
  have hb : b ≠ 0 := by omega
  refine xbin_gr ?_ rfl
  simp [eqGuard, binOp, Op.intDiv, Bind.bind, Sem.bind, Pure.pure, pv, hb, tdiv_pos h0 h]
theorem shlP {t : TypeId} {ox oy : Operand} {q q' : IntKind} {a b : Int} (h : 0 ≤ b ∧ b < q.bits) : Yf P .shl t ox oy (.int q a) (.int q' b) = some (.int q (q.wrap (a * 2 ^ b.toNat))) := by
  refine xbin_gr ?_ rfl
  have hb : ¬ b < 0 := by omega
  have hm : min b.toNat q.bits = b.toNat := by omega
  simp [eqGuard, binOp, Op.shift, Bind.bind, Sem.bind, Pure.pure, pv, hb, hm]
theorem shrP {t : TypeId} {ox oy : Operand} {q q' : IntKind} {a b : Int} (h : 0 ≤ b ∧ b < q.bits) : Yf P .shr t ox oy (.int q a) (.int q' b) = some (.int q (a / 2 ^ b.toNat)) := by
  refine xbin_gr ?_ rfl
  have hb : ¬ b < 0 := by omega
  have hm : min b.toNat q.bits = b.toNat := by omega
  simp [eqGuard, binOp, Op.shift, Bind.bind, Sem.bind, Pure.pure, pv, hb, hm]
  rw [Int.fdiv_eq_ediv_of_nonneg]
  exact Int.pow_nonneg (by decide)
theorem orU {t : TypeId} {ox oy : Operand} {q : IntKind} {a b : Nat} (ha : a < 2 ^ q.bits) (hb : b < 2 ^ q.bits) : Yf P .or t ox oy (.int q (a : Int)) (.int q (b : Int)) = some (.int q (q.wrap ((a ||| b : Nat) : Int))) := by
  refine xbin_gr ?_ rfl
  simp [eqGuard, binOp, Bind.bind, Sem.bind, Pure.pure, pv, Op.intBits, Nat.mod_eq_of_lt ha, Nat.mod_eq_of_lt hb]
theorem or_add {a b k : Nat} (hb : b < 2 ^ k) : a * 2 ^ k ||| b = a * 2 ^ k + b := by
  rw [← Nat.shiftLeft_eq, ← Nat.shiftLeft_add_eq_or_of_lt hb]
def EB : Enc UInt8 := ⟨1, fun b => [Xc b], fun _ => rfl, by decide, fun _ => rfl⟩
theorem V8 (l : List UInt8) : EB.cells l = l.map Xc := by
  induction l with
  | nil => rfl
  | cons a l ih => rw [Enc.cells_cons, ih]; rfl
theorem bytesOf_cells : ∀ (l : List UInt8), bytesOf (EB.cells l) = some l
  | [] => rfl
  | a :: l => by
    have : EB.cells (a :: l) = Xc a :: EB.cells l := rfl
    rw [this]
    unfold Xc bytesOf
    rw [bytesOf_cells l]
    simp
theorem conv_bs {t s e : TypeId} (ht : P.underlying t = some (.slice e)) (he : P.underlying e = some (.int .u8)) (hs : P.underlying s = some .string) {v : Value} {l : List UInt8} (hr : Rd EB H v l) : YP P t s v H = some (.string (mk l), H) := by
  rcases hr with ⟨rfl, rfl⟩ | ⟨rfl, ⟨b, o, sp⟩, k, rfl, hsp⟩ | ⟨b, o, c, rfl, hl, hb, hc⟩
  · have h : pv P (convert t s (.slice none 0 0)) = some (.string .empty) := by
      simp only [convert, Ve, Zv ht, Zv hs, Option.bind_some, Zv he]
      rfl
    have h2 : pvg P (convert t s (.slice none 0 0)) = some (.string .empty) := ZW h rfl
    unfold YP
    rw [ht, hs]
    simp only [h2, Option.map_some]
    rfl
  · simp only at hsp
    subst hsp
    unfold YP
    rw [ht, hs]
    simp only [he, if_true]
    rfl
  · have h0 : l.length ≠ 0 := fun h => hl (List.length_eq_zero_iff.1 h)
    unfold YP
    rw [ht, hs]
    have hw : EB.w = 1 := rfl
    rw [hw, Nat.mul_one] at hc
    simp only [he, h0, if_false, cut_b, hc, Option.bind_some, bytesOf_cells, Option.map_some]
theorem Rd.byte {v : Value} {l : List UInt8} (hr : Rd EB H v l) {i : Nat} (hi : i < l.length) : ∃ b o, ixS 1 v (.int .i64 (i : Int)) = some (.pointer (some ⟨b, o, none⟩)) ∧ X4 (H.f b) o = some (.int .u8 (l[i].toNat : Int)) ∧ b < H.n ∧ Yk v = some b := by
  obtain ⟨b, o, h1, h2, h3, h4⟩ := hr.ix (q := .i64) hi
  exact ⟨b, o, h1, X2 h3 (i := 0) (by decide), h2, h4⟩
theorem u8_lt (c : UInt8) : (0 : Int) ≤ (c.toNat : Int) ∧ (c.toNat : Int) < 256 := ⟨by omega, by have := c.toNat_lt; omega⟩
@[go_sem] theorem add_u32 {t : TypeId} {ox oy : Operand} {a b : Int} (h : 0 ≤ a + b ∧ a + b < 4294967296) : Yf P .add t ox oy (.int .u32 a) (.int .u32 b) = some (.int .u32 (a + b)) := by
  rw [Ud, wrap_u32 h]
theorem wrapU8 {n : Int} : IntKind.wrap .u8 n = n % 256 := by
  unfold IntKind.wrap
  simp only [IntKind.bits, IntKind.signed, Bool.false_and]
  simp
variable {α : Type} {E : Enc α} {e : TypeId}
def SlOk (e : TypeId) (H : AHeap) (v : Value) : Prop :=
  v = .slice none 0 0 ∨ ∃ b o n code, v = .slice (some ⟨b, o, none⟩) n code ∧ n ≤ code / 2 ∧ (code % 2 = 0 ∨ Qy e (H.f b) = true) ∧ b < H.n
def RdS (E : Enc α) (e : TypeId) (H : AHeap) (v : Value) (l : List α) : Prop := Rd E H v l ∧ SlOk e H v
theorem SlOk.keep {S : Nat → Prop} {v : Value} (r : SlOk e H v) (h : Fr S H H') (hs : Off S v) : SlOk e H' v := by
  rcases r with r | ⟨b, o, n, code, rfl, h1, h2, h3⟩
  · exact .inl r
  · refine .inr ⟨b, o, n, code, rfl, h1, ?_, Nat.lt_of_lt_of_le h3 h.n⟩
    rw [h.f h3 (hs b rfl)]
    exact h2
theorem RdS.keep {S : Nat → Prop} {v : Value} {l : List α} (r : RdS E e H v l) (h : Fr S H H') (hs : Off S v) : RdS E e H' v l := ⟨r.1.keep h hs, r.2.keep h hs⟩
theorem RdS.still {v : Value} {l : List α} (r : RdS E e H v l) (h : Yq H H') : RdS E e H' v l := r.keep h fun _ _ h => h
theorem Own.sl {v : Value} {l : List α} (r : Own E H e v l) : RdS E e H v l := by
  refine ⟨r.rd, ?_⟩
  rcases r with ⟨_, rfl⟩ | ⟨hl, ⟨b, o, s⟩, rfl, hs, hb⟩ | ⟨b, o, c, xs, rfl, hl, hb, hf, ho, hx⟩
  · exact .inl rfl
  · simp only at hs
    subst hs
    exact .inr ⟨b, o, 0, 0, rfl, Nat.le_refl _, .inl rfl, hb⟩
  · exact .inr ⟨b, o, _, _, rfl, by omega, .inr (by rw [hf]; simp [Qy]), hb⟩
theorem RdS.one {v : Value} {l : List α} (r : RdS E e H v l) : Eng.one v = true := by
  obtain ⟨a, c, rfl⟩ := r.1.shape; rfl
theorem RdS.nil : RdS E e H (.slice none 0 0) [] := ⟨.inl ⟨rfl, rfl⟩, .inl rfl⟩
theorem RdS.part {v : Value} {l : List α} (r : RdS E e H v l) {sz : Nat} (hsz : sz = E.w) {i j : Nat} (hi : i ≤ j) (hj : j ≤ l.length) (lo hi' : Option Value) (hlo : WN j lo = some i) (hhi : ∀ y, l.length ≤ y → Wl y l.length hi' = some j) :
    ∃ v', slS e sz v lo hi' none H = some v' ∧ RdS E e H v' ((l.drop i).take (j - i)) ∧ (Yk v' = Yk v) := by
  subst hsz
  obtain ⟨r, k⟩ := r
  rcases k with rfl | ⟨b, o, n, code, rfl, hn, hcode, hb⟩
  · obtain ⟨a, c, hs⟩ := r.shape
    have h0 : l.length = 0 := by injection hs with _ h _; exact h.symm
    have hl : l = [] := List.length_eq_zero_iff.1 h0
    subst hl
    have hj0 : j = 0 := by simpa using hj
    have hi0 : i = 0 := by omega
    subst hj0; subst hi0
    refine ⟨.slice none 0 0, ?_, ⟨.inl ⟨by simp, rfl⟩, .inl rfl⟩, rfl⟩
    have hh := hhi 0 (by simp)
    simp only [List.length_nil] at hh
    simp only [slS, hh, Option.bind_some, hlo, Option.map_some]
  · obtain ⟨a, c, hs⟩ := r.shape
    have hnl : n = l.length := by injection hs
    subst hnl
    have hh := hhi (code / 2) hn
    have hjc : j ≤ code / 2 := by omega
    have hblk : ∀ (x : Nat), SlOk e H (.slice (some ⟨b, x, none⟩) (j - i) (2 * (code / 2 - i) + code % 2)) := fun x => by
      refine .inr ⟨b, x, _, _, rfl, ?_, ?_, hb⟩
      · have : code % 2 < 2 := Nat.mod_lt _ (by omega)
        omega
      · rcases hcode with h | h
        · left; omega
        · exact .inr h
    have hrd : j - i ≠ 0 → Rd E H (.slice (some ⟨b, o + i * E.w, none⟩) (j - i) (2 * (code / 2 - i) + code % 2)) ((l.drop i).take (j - i)) := fun h0 => by
      have hlen : ((l.drop i).take (j - i)).length = j - i := by simp; omega
      rcases r with ⟨h, _⟩ | ⟨h, _⟩ | ⟨b', o', c', hv, hl, hb', hc⟩
      · subst h; simp at hj; omega
      · subst h; simp at hj; omega
      · cases hv
        refine .inr (.inr ⟨b, o + i * E.w, _, by rw [hlen], fun h => by rw [h] at hlen; simp at hlen; omega, hb, ?_⟩)
        rw [hlen, cutB_sub hc (i := i * E.w) (m := (j - i) * E.w) (by rw [← Nat.add_mul]; exact Nat.mul_le_mul_right _ (by omega)), E.cells_drop, E.cells_take]
    by_cases hz : j - i = 0
    · have hnil : (l.drop i).take (j - i) = [] := by rw [hz]; simp
      rw [hnil]
      rcases Nat.mod_two_eq_zero_or_one code with hm | hm
      · refine ⟨.slice (some ⟨b, if code / 2 = i then o else o + i * E.w, none⟩) (j - i) (2 * (code / 2 - i)), ?_, ⟨.inr (.inl ⟨rfl, _, _, by rw [hz], rfl⟩), ?_⟩, rfl⟩
        · simp only [slS, hh, Option.bind_some, hlo, hjc, if_true, hm]
        · have := hblk (if code / 2 = i then o else o + i * E.w)
          rwa [hm, Nat.add_zero] at this
      · have hrow : Qy e (H.f b) = true := hcode.elim (fun h => by omega) id
        refine ⟨.slice (some ⟨b, o + i * E.w, none⟩) (j - i) (2 * (code / 2 - i) + 1), ?_, ⟨.inr (.inl ⟨rfl, _, _, by rw [hz], rfl⟩), ?_⟩, rfl⟩
        · simp only [slS, hh, Option.bind_some, hlo, hjc, if_true, hm, Nat.one_ne_zero, if_false, hrow]
        · have := hblk (o + i * E.w)
          rwa [hm] at this
    · rcases Nat.mod_two_eq_zero_or_one code with hm | hm
      · refine ⟨.slice (some ⟨b, o + i * E.w, none⟩) (j - i) (2 * (code / 2 - i)), ?_, ⟨?_, ?_⟩, rfl⟩
        · simp only [slS, hh, Option.bind_some, hlo, hjc, if_true, hm, show ¬ code / 2 = i by omega, if_false]
        · have := hrd hz
          rwa [hm, Nat.add_zero] at this
        · have := hblk (o + i * E.w)
          rwa [hm, Nat.add_zero] at this
      · have hrow : Qy e (H.f b) = true := hcode.elim (fun h => by omega) id
        refine ⟨.slice (some ⟨b, o + i * E.w, none⟩) (j - i) (2 * (code / 2 - i) + 1), ?_, ⟨?_, ?_⟩, rfl⟩
        · simp only [slS, hh, Option.bind_some, hlo, hjc, if_true, hm, Nat.one_ne_zero, if_false, hrow]
        · have := hrd hz
          rwa [hm] at this
        · have := hblk (o + i * E.w)
          rwa [hm] at this
theorem low_nat {j i : Nat} {q : IntKind} (h : i ≤ j) : WN j (some (.int q (i : Int))) = some i := Qz (q := q) h
theorem high_nat {y n j : Nat} {q : IntKind} (h : j ≤ y) : Wl y n (some (.int q (j : Int))) = some j := Qz (q := q) h
theorem RdS.from {v : Value} {l : List α} (r : RdS E e H v l) {sz : Nat} (hsz : sz = E.w) {i : Nat} (hi : i ≤ l.length) {q : IntKind} :
    ∃ v', slS e sz v (some (.int q (i : Int))) none none H = some v' ∧ RdS E e H v' (l.drop i) ∧ Yk v' = Yk v := by
  obtain ⟨v', h1, h2, h3⟩ := r.part hsz hi (Nat.le_refl _) (some (.int q (i : Int))) none (low_nat hi) (fun y _ => rfl)
  exact ⟨v', h1, by rwa [List.take_of_length_le (by simp)] at h2, h3⟩
theorem RdS.to {v : Value} {l : List α} (r : RdS E e H v l) {sz : Nat} (hsz : sz = E.w) {j : Nat} (hj : j ≤ l.length) {q : IntKind} :
    ∃ v', slS e sz v none (some (.int q (j : Int))) none H = some v' ∧ RdS E e H v' (l.take j) ∧ Yk v' = Yk v := by
  obtain ⟨v', h1, h2, h3⟩ := r.part hsz (Nat.zero_le j) hj none (some (.int q (j : Int))) rfl (fun y hy => high_nat (by omega))
  exact ⟨v', h1, by simpa using h2, h3⟩
theorem RdS.mid {v : Value} {l : List α} (r : RdS E e H v l) {sz : Nat} (hsz : sz = E.w) {i j : Nat} (hi : i ≤ j) (hj : j ≤ l.length) {q q' : IntKind} :
    ∃ v', slS e sz v (some (.int q (i : Int))) (some (.int q' (j : Int))) none H = some v' ∧ RdS E e H v' ((l.drop i).take (j - i)) ∧ Yk v' = Yk v :=
  r.part hsz hi hj _ _ (low_nat hi) (fun y hy => high_nat (by omega))
theorem Own.appA {v : Value} {l : List α} (r : Own E H e v l) (m : List α) {sz bytes : Nat} (hsz : sz = E.w) (hb : (l.length + m.length) * bytes ≤ 140737488355328) (hn : l.length + m.length ≤ 140737488355328)
    {src : Option (Nat × List Value)} (hsrc : src = some (m.length, E.cells m)) :
    ∃ v' H', Eng.app e sz bytes v src H = some (v', H') ∧ Own E H' e v' (l ++ m) ∧ Fr (WP v) H H' ∧ (Yk v' = Yk v ∨ Yk v' = some H.n) := by
  by_cases hm : m = []
  · subst hm
    refine ⟨v, H, ?_, by simpa using r, Fr.refl H, .inl rfl⟩
    obtain ⟨a, c, rfl⟩ := r.rd.shape
    rw [hsrc]
    simp [Eng.app]
  · obtain ⟨v', H', h1, h2, h3, h4, _⟩ := r.app hm hsz hb hn hsrc
    exact ⟨v', H', h1, h2, h3, h4⟩
def Full (v : Value) : Prop := v = .slice none 0 0 ∨ ∃ b o n, v = .slice (some ⟨b, o, none⟩) n (2 * n)
theorem Full.app {v : Value} {l : List α} (hf : Full v) (r : Rd E H v l) {m : List α} (hm : m ≠ []) {sz bytes : Nat} (hsz : sz = E.w) (hb : (l.length + m.length) * bytes ≤ 140737488355328) (hn : l.length + m.length ≤ 140737488355328)
    {src : Option (Nat × List Value)} (hsrc : src = some (m.length, E.cells m)) :
    ∃ v' H', Eng.app e sz bytes v src H = some (v', H') ∧ Own E H' e v' (l ++ m) ∧ Yq H H' ∧ Yk v' = some H.n ∧ gr 9 v' = false := by
  subst hsz hsrc
  have hm0 : m.length ≠ 0 := fun h => hm (List.length_eq_zero_iff.1 h)
  have hbig : ¬ ((l.length + m.length) * bytes > 140737488355328 ∨ l.length + m.length > 140737488355328) := by omega
  have hone := E.cells_one m
  have hown : Own E (H.push (.cells (E.cells l ++ E.cells m) e true)) e (.slice (some ⟨H.n, 0, none⟩) (l.length + m.length) (2 * (l.length + m.length) + 1)) (l ++ m) := by
    refine .inr (.inr ⟨H.n, 0, l.length + m.length, E.cells l ++ E.cells m, by simp, by simp, by simp, Yu rfl, by simp [Nat.add_mul], ?_⟩)
    simp only [List.drop_zero]
    rw [List.take_of_length_le (by simp [Nat.add_mul]), E.cells_append]
  refine ⟨_, _, ?_, hown, (Fr.refl H).push _, rfl, rfl⟩
  rcases hf with rfl | ⟨b, o, n, rfl⟩
  · obtain ⟨a, c, hs⟩ := r.shape
    have h0 : l.length = 0 := by injection hs with _ h _; exact h.symm
    have hl : l = [] := List.length_eq_zero_iff.1 h0
    subst hl
    simp only [List.length_nil, Nat.zero_add] at hbig
    simp only [Eng.app, Option.bind_some, hm0, if_false, Nat.zero_add, hbig, Nat.zero_div, Nat.le_zero_eq, hone, Bool.true_eq_false, Qx, if_true, Nat.zero_mod, Option.map_some, List.nil_append, Enc.cells_nil, List.length_nil]
  · obtain ⟨a, c, hs⟩ := r.shape
    have hnl : n = l.length := by injection hs
    subst hnl
    have hold : Qx E.w l.length H (some ⟨b, o, none⟩) = some (E.cells l) := by
      unfold Qx
      split
      · rename_i h0; rw [List.length_eq_zero_iff.1 h0]; rfl
      · rename_i h0
        rcases r with ⟨h, _⟩ | ⟨h, _⟩ | ⟨b', o', c', hv, hl, hb', hc⟩
        · rw [h] at h0; simp at h0
        · rw [h] at h0; simp at h0
        · cases hv
          simp only [cut_b, hc]
    simp only [Eng.app, Option.bind_some, hm0, if_false, hbig, show 2 * l.length / 2 = l.length by omega, show ¬ l.length + m.length ≤ l.length by omega, hone, Bool.true_eq_false, hold, show 2 * l.length % 2 = 0 by omega, if_true, Option.map_some]
end Go.Proofs.YtmiinbhnfojnbaaDoor.Eng

namespace Go.Proofs.YtmiinbhnfojnbaaDoor.Eng
open Go
variable {P : Program} {κ α : Type} [DecidableEq κ]
structure KeyK (κ : Type) [DecidableEq κ] where
  kv : κ → Value
  d : TypeDesc
  ok : ∀ a, Wx d (kv a) = true
  eq : ∀ a b, keq (kv a) (kv b) = decide (a = b)
def kInt (q : IntKind) : KeyK Int := ⟨.int q, .int q, fun _ => by simp [Wx], fun a b => by simp [keq, Bool.beq_eq_decide_eq]⟩
def lkp : List (κ × α) → κ → Option α
  | [], _ => none
  | p :: r, k => if k = p.1 then some p.2 else lkp r k
def has (es : List (κ × α)) (k : κ) : Bool := (lkp es k).isSome
def Zy (es : List (κ × α)) (k : κ) (a : α) : List (κ × α) := es.map fun p => if k = p.1 then (p.1, a) else p
def putE (es : List (κ × α)) (k : κ) (a : α) : List (κ × α) := if has es k then Zy es k a else es ++ [(k, a)]
def delE (es : List (κ × α)) (k : κ) : List (κ × α) := es.filter fun p => !decide (k = p.1)
theorem lkp_append (a b : List (κ × α)) (k : κ) : lkp (a ++ b) k = (lkp a k).or (lkp b k) := by
  induction a with
  | nil => rfl
  | cons p r ih =>
    simp only [List.cons_append, lkp]
    split
    · rfl
    · exact ih
theorem lkp_rep (es : List (κ × α)) (k j : κ) (a : α) : lkp (Zy es k a) j = if k = j then (lkp es j).map (fun _ => a) else lkp es j := by
  induction es with
  | nil => simp [Zy, lkp]
  | cons p r ih =>
    unfold Zy at ih ⊢
    simp only [List.map_cons, lkp]
    by_cases h1 : k = p.1
    · rw [if_pos h1]
      simp only
      by_cases h2 : j = p.1
      · rw [if_pos h2, if_pos h2, if_pos (by rw [h1, h2])]; rfl
      · rw [if_neg h2, if_neg h2, ih]
    · rw [if_neg h1]
      by_cases h2 : j = p.1
      · rw [if_pos h2, if_pos h2, if_neg (by rw [h2]; exact h1)]
      · rw [if_neg h2, if_neg h2, ih]
theorem Zf (es : List (κ × α)) (k j : κ) (a : α) : lkp (putE es k a) j = if k = j then some a else lkp es j := by
  unfold putE has
  split
  · rename_i h
    rw [lkp_rep]
    by_cases hk : k = j
    · subst hk
      obtain ⟨x, hx⟩ := Option.isSome_iff_exists.1 h
      simp [hx]
    · rw [if_neg hk, if_neg hk]
  · rename_i h
    rw [lkp_append]
    by_cases hk : k = j
    · subst hk
      have : lkp es k = none := by simpa using h
      simp [this, lkp]
    · rw [if_neg hk]
      have : ¬ j = k := fun h => hk h.symm
      simp [lkp, this]
theorem lkp_del (es : List (κ × α)) (k j : κ) : lkp (delE es k) j = if k = j then none else lkp es j := by
  induction es with
  | nil => simp [delE, lkp]
  | cons p r ih =>
    unfold delE at ih ⊢
    by_cases h1 : k = p.1
    · rw [List.filter_cons_of_neg (by simp [h1]), ih]
      by_cases h2 : k = j
      · rw [if_pos h2, if_pos h2]
      · rw [if_neg h2, if_neg h2, lkp, if_neg (by rw [← h1]; exact fun h => h2 h.symm)]
    · rw [List.filter_cons_of_pos (by simp [h1]), lkp, ih, lkp]
      by_cases h2 : j = p.1
      · rw [if_pos h2, if_pos h2, if_neg (by rw [h2]; exact h1)]
      · rw [if_neg h2, if_neg h2]
theorem lkp_key {es : List (κ × α)} {k : κ} : has es k = true ↔ k ∈ es.map (·.1) := by
  unfold has
  induction es with
  | nil => simp [lkp]
  | cons p r ih =>
    simp only [lkp, List.map_cons, List.mem_cons]
    by_cases h : k = p.1
    · simp [h]
    · simp [h, ih]
theorem keys_rep (es : List (κ × α)) (k : κ) (a : α) : (Zy es k a).map (·.1) = es.map (·.1) := by
  unfold Zy
  rw [List.map_map]
  apply List.map_congr_left
  intro p _
  simp only [Function.comp]
  split <;> rfl
def Ent (R : Value → α → Prop) (kv : κ → Value) : List (Value × Value) → List (κ × α) → Prop
  | [], [] => True
  | e :: ents, p :: es => e.1 = kv p.1 ∧ R e.2 p.2 ∧ Ent R kv ents es
  | _, _ => False
section
variable {R R' : Value → α → Prop} {Kk : KeyK κ} {ents : List (Value × Value)} {es : List (κ × α)}
theorem Ent.mono (h : ∀ v a, R v a → R' v a) {kv : κ → Value} : ∀ {ents : List (Value × Value)} {es : List (κ × α)}, Ent R kv ents es → Ent R' kv ents es
  | [], [], _ => trivial
  | _ :: _, _ :: _, e => ⟨e.1, h _ _ e.2.1, Ent.mono h e.2.2⟩
  | [], _ :: _, e => e
  | _ :: _, [], e => e
theorem Ent.len {kv : κ → Value} : ∀ {ents : List (Value × Value)} {es : List (κ × α)}, Ent R kv ents es → ents.length = es.length
  | [], [], _ => rfl
  | _ :: _, _ :: _, e => by simp [Ent.len e.2.2]
  | [], _ :: _, e => e.elim
  | _ :: _, [], e => e.elim
theorem Ent.okd : ∀ {ents : List (Value × Value)} {es : List (κ × α)}, Ent R Kk.kv ents es → (ents.all fun p => Wx Kk.d p.1) = true
  | [], [], _ => rfl
  | _ :: _, _ :: _, e => by rw [List.all_cons, e.1, Kk.ok, Ent.okd e.2.2]; rfl
  | [], _ :: _, e => e.elim
  | _ :: _, [], e => e.elim
theorem Ent.get (k : κ) : ∀ {ents : List (Value × Value)} {es : List (κ × α)}, Ent R Kk.kv ents es → (lkp es k = none → mget ents (Kk.kv k) = none) ∧ (∀ a, lkp es k = some a → ∃ v, mget ents (Kk.kv k) = some v ∧ R v a)
  | [], [], _ => ⟨fun _ => rfl, fun a h => by simp [lkp] at h⟩
  | x :: ents, p :: es, e => by
    obtain ⟨g1, g2⟩ := Ent.get k e.2.2
    have hk : keq (Kk.kv k) x.1 = decide (k = p.1) := by rw [e.1, Kk.eq]
    unfold mget at g1 g2 ⊢
    rw [lkp, List.find?_cons, hk]
    by_cases h : k = p.1
    · simp only [h, decide_true, if_true, Option.map_some]
      exact ⟨fun h => by simp at h, fun a ha => by cases ha; exact ⟨_, rfl, e.2.1⟩⟩
    · simp only [h, decide_false, if_false]
      exact ⟨g1, g2⟩
  | [], _ :: _, e => e.elim
  | _ :: _, [], e => e.elim
theorem Ent.any (k : κ) : ∀ {ents : List (Value × Value)} {es : List (κ × α)}, Ent R Kk.kv ents es → (ents.any fun p => keq (Kk.kv k) p.1) = has es k
  | [], [], _ => rfl
  | x :: ents, p :: es, e => by
    have ih := Ent.any k e.2.2
    unfold has at ih ⊢
    rw [List.any_cons, ih, e.1, Kk.eq, lkp]
    by_cases h : k = p.1 <;> simp [h]
  | [], _ :: _, e => e.elim
  | _ :: _, [], e => e.elim
theorem Ent.rep {k : κ} {v : Value} {a : α} (hv : R v a) : ∀ {ents : List (Value × Value)} {es : List (κ × α)}, Ent R Kk.kv ents es → Ent R Kk.kv (ents.map fun p => if keq (Kk.kv k) p.1 then (p.1, v) else p) (Zy es k a)
  | [], [], _ => trivial
  | x :: ents, p :: es, e => by
    have ih := Ent.rep (k := k) hv e.2.2
    unfold Zy at ih ⊢
    simp only [List.map_cons]
    rw [e.1, Kk.eq]
    by_cases h : k = p.1
    · simp only [h, decide_true, if_true]
      rw [h] at ih
      exact ⟨rfl, hv, ih⟩
    · simp only [h, decide_false, if_false]
      exact ⟨e.1, e.2.1, ih⟩
  | [], _ :: _, e => e.elim
  | _ :: _, [], e => e.elim
theorem Ent.app {kv : κ → Value} : ∀ {ents e2 : List (Value × Value)} {es s2 : List (κ × α)}, Ent R kv ents es → Ent R kv e2 s2 → Ent R kv (ents ++ e2) (es ++ s2)
  | [], _, [], _, _, h => h
  | _ :: _, _, _ :: _, _, e, h => ⟨e.1, e.2.1, Ent.app e.2.2 h⟩
  | [], _, _ :: _, _, e, _ => e.elim
  | _ :: _, _, [], _, e, _ => e.elim
theorem Ent.put {k : κ} {v : Value} {a : α} (hv : R v a) (e : Ent R Kk.kv ents es) : Ent R Kk.kv (mput ents (Kk.kv k) v) (putE es k a) := by
  unfold mput putE
  rw [e.any k]
  split
  · exact e.rep hv
  · exact e.app ⟨rfl, hv, trivial⟩
theorem Ent.del {k : κ} : ∀ {ents : List (Value × Value)} {es : List (κ × α)}, Ent R Kk.kv ents es → Ent R Kk.kv (mdel ents (Kk.kv k)) (delE es k)
  | [], [], _ => trivial
  | x :: ents, p :: es, e => by
    have ih := Ent.del (k := k) e.2.2
    unfold mdel delE at ih ⊢
    by_cases h : k = p.1
    · rw [List.filter_cons_of_neg (by rw [e.1, Kk.eq]; simp [h]), List.filter_cons_of_neg (by simp [h])]
      exact ih
    · rw [List.filter_cons_of_pos (by rw [e.1, Kk.eq]; simp [h]), List.filter_cons_of_pos (by simp [h])]
      exact ⟨e.1, e.2.1, ih⟩
  | [], _ :: _, e => e.elim
  | _ :: _, [], e => e.elim
structure MapT (P : Program) (Kk : KeyK κ) (t : TypeId) (z : Value) : Prop where
  ut : ∃ kt et, P.underlying t = some (.map kt et) ∧ keyDesc P kt = some Kk.d ∧ zero? P et = some z
variable {t : TypeId} {z : Value} {H : AHeap} {b : Nat}
theorem look_none (m : MapT P Kk t z) (hf : H.f b = .map ents) (e : Ent R Kk.kv ents es) {k : κ} (h : lkp es k = none) (ok : Bool) : Xb P t (.map (some b)) (Kk.kv k) ok H = some (if ok then .tuple #[z, .bool false] else z) := by
  obtain ⟨kt, et, h1, h2, h3⟩ := m.ut
  unfold Xb
  simp only [h1, h2, h3, Kk.ok, if_true, XX, hf, e.okd, Option.map_some, (e.get k).1 h]
theorem ZM (m : MapT P Kk t z) (hf : H.f b = .map ents) (e : Ent R Kk.kv ents es) {k : κ} {a : α} (h : lkp es k = some a) (ok : Bool) : ∃ v, Xb P t (.map (some b)) (Kk.kv k) ok H = some (if ok then .tuple #[v, .bool true] else v) ∧ R v a := by
  obtain ⟨kt, et, h1, h2, h3⟩ := m.ut
  obtain ⟨v, h4, h5⟩ := (e.get k).2 a h
  refine ⟨v, ?_, h5⟩
  unfold Xb
  simp only [h1, h2, h3, Kk.ok, if_true, XX, hf, e.okd, Option.map_some, h4]
theorem upd_map (m : MapT P Kk t z) (hf : H.f b = .map ents) (e : Ent R Kk.kv ents es) (k : κ) (v : Value) : Y8 P t (.map (some b)) (Kk.kv k) v H = some (H.set b (.map (mput ents (Kk.kv k) v))) := by
  obtain ⟨kt, et, h1, h2, h3⟩ := m.ut
  unfold Y8
  simp only [h1, h2, Kk.ok, if_true, XX, hf, e.okd, Option.map_some]
theorem del_map (m : MapT P Kk t z) (hf : H.f b = .map ents) (e : Ent R Kk.kv ents es) (k : κ) (ts : List TypeId) : QE P (t :: ts) (.map (some b)) (Kk.kv k) H = some (.tuple #[], H.set b (.map (mdel ents (Kk.kv k)))) := by
  obtain ⟨kt, et, h1, h2, h3⟩ := m.ut
  unfold QE
  simp only [h1, h2, Kk.ok, if_true, XX, hf, e.okd, Option.map_some]
theorem make_map (m : MapT P Kk t z) : WU P t none H = some (.map (some H.n), H.push (.map [])) := by
  obtain ⟨kt, et, h1, h2, h3⟩ := m.ut
  unfold WU
  simp only [h1]
end
end Go.Proofs.YtmiinbhnfojnbaaDoor.Eng

namespace Go.Proofs.YtmiinbhnfojnbaaDoor.Eng
open Go
variable {P : Program} {W : World}
theorem cell_abs {a : Addr} {v : Value} (h : W.cell? a = some v) : ∃ cs e fr, W.heap[a.block]? = some (.cells cs e fr) ∧ cs[a.off]? = some v ∧ a.spot = none := by
  unfold World.cell? at h
  split at h
  · rename_i c e fr hw
    split at h
    · cases h
    · rename_i hs
      exact ⟨c, e, fr, hw, h, by simpa using hs⟩
  · cases h
def plain : Value → Bool
  | .int _ _ | .string _ | .bool _ => true
  | _ => false
theorem cutB_of_cells {k : Blk} {o n : Nat} {xs : List Value} (hl : xs.length = n) (hn : 0 < n) (h : ∀ i, i < n → X4 k (o + i) = xs[i]?) : UT k o n = some xs := by
  cases k with
  | cells ys e rw =>
    unfold UT
    simp only
    have hlen : o + n ≤ ys.length := by
      have := h (n - 1) (by omega)
      rw [List.getElem?_eq_getElem (by omega)] at this
      unfold X4 at this
      have := (List.getElem?_eq_some_iff.1 this).1
      omega
    rw [if_pos hlen]
    congr 1
    apply List.ext_getElem?
    intro i
    by_cases hi : i < n
    · rw [List.getElem?_take_of_lt hi, List.getElem?_drop, ← h i hi]
      rfl
    · rw [List.getElem?_eq_none (by simp; omega), List.getElem?_eq_none (by omega)]
  | _ =>
    have := h 0 hn
    rw [List.getElem?_eq_getElem (by omega)] at this
    cases this
section
variable {α : Type} {E : Enc α} {R : α → Prop} {H : Type} {enc : TypeId × Value → H}
end
theorem dec_int {H : Type} {enc : TypeId × Value → H} {e : TypeId} {k : IntKind} (he : P.underlying e = some (.int k)) {n : Nat} {y : DataW H × List MemPlace} {c : Value} (h : DataW.trod enc P W 0 (fun _ => true) true n e [c] = some y) :
    ∃ i, c = .int k i ∧ (Lit.int k i).wf = true := by
  obtain ⟨i, h1, _, h2⟩ := DataW.trod_int he h
  exact ⟨i, (List.cons.inj h1).1, h2⟩
theorem dec_str {H : Type} {enc : TypeId × Value → H} {e : TypeId} (he : P.underlying e = some .string) {n : Nat} {y : DataW H × List MemPlace} {c : Value} (h : DataW.trod enc P W 0 (fun _ => true) true n e [c] = some y) :
    ∃ s, c = .string s ∧ s.size ≤ maxLen := by
  obtain ⟨i, h1, _, h2⟩ := DataW.trod_string he h
  exact ⟨i, (List.cons.inj h1).1, h2⟩
theorem dec_field {H : Type} {enc : TypeId × Value → H} {t : TypeId} {fs : Array Field} (ht : P.underlying t = some (.struct fs)) {n : Nat} {cs : List Value} {y : DataW H × List MemPlace} (h : DataW.trod enc P W 0 (fun _ => true) true n t cs = some y)
    {i : Nat} {f : Field} (hf : fs[i]? = some f) (ho : f.offset = i) (hc : P.cellsOf f.type = 1) {c : Value} (hci : cs[i]? = some c) :
    ∃ m z, DataW.trod enc P W 0 (fun _ => true) true m f.type [c] = some z := by
  obtain ⟨xs, m, _, _, hl, hxl, hfd⟩ := DataW.trod_struct ht h
  have h1 := hfd i f hf
  have hi : i < cs.length := (List.getElem?_eq_some_iff.1 hci).1
  have hone : (cs.drop f.offset).take (P.cellsOf f.type) = [c] := by
    rw [ho, hc, List.drop_eq_getElem_cons hi]
    have := (List.getElem?_eq_some_iff.1 hci).2
    simp [this]
  rw [hone] at h1
  have hix : i < xs.length := by rw [hxl]; exact (Array.getElem?_eq_some_iff.1 hf).1
  rw [List.getElem?_eq_getElem hix] at h1
  exact ⟨_, _, h1⟩
end Go.Proofs.YtmiinbhnfojnbaaDoor.Eng

namespace Go.Proofs.YtmiinbhnfojnbaaDoor.Eng
open Go
def UN (n : Nat) : Value → Value
  | .slice (some _) 0 0 => if 0 < n then .slice (some ⟨0, 0, none⟩) 0 0 else top
  | v => conv n v
def convA2 (n : Nat) : Value → Value
  | .agg cs => .agg (cs.map (UN n))
  | v => UN n v
def WH (w : World) : AHeap := ⟨w.heap.size, 1, fun b => match w.heap[b]? with | some (.cells cs e _) => .cells (cs.toList.map (UN w.heap.size)) e false | _ => .dead, fun _ => 0, []⟩
theorem conv2_rel (w : World) (v : Value) : RV (idE w) (UN w.heap.size v) v := by
  unfold UN
  split
  · split
    · exact .sl0 (by decide)
    · exact .unk _
  · exact conv_rel w v
theorem convA2_rel (w : World) (v : Value) : RV (idE w) (convA2 w.heap.size v) v := by
  unfold convA2
  split
  · rename_i cs
    refine .agg (by simp) fun i u u' h h' => ?_
    simp only [Array.getElem?_map, Option.map_eq_some_iff] at h
    obtain ⟨x, hx, rfl⟩ := h
    rw [h'] at hx
    cases hx
    exact conv2_rel w u'
  · exact conv2_rel w v
theorem conv2_ad (n : Nat) (v : Value) : AD n (UN n v) := by
  unfold UN
  split
  · split
    · rename_i h; exact .sl h
    · exact .unk
  · exact conv_ad n v
theorem convA2_ad (n : Nat) (v : Value) : AD n (convA2 n v) := by
  unfold convA2
  split
  · refine .agg fun u hu => ?_
    simp only [Array.toList_map, List.mem_map] at hu
    obtain ⟨x, _, rfl⟩ := hu
    exact conv2_ad n x
  · exact conv2_ad n v
theorem absHeap2_rel (P : Program) (w : World) (hgl : Glob w.heap.size w) : Rel P w.heap.size (idE w) (WH w) w := by
  refine ⟨fun b L h => ?_, fun b L h => ?_, fun b c L M h1 h2 hne ho ha => ?_, Nat.le_refl _, fun _ => Nat.zero_lt_one, hgl⟩
  · unfold idE at h
    split at h
    · rename_i hb
      simp at h
      subst h
      simp only [WH]
      cases hq : w.heap[b]? with
      | none => trivial
      | some o =>
        cases o with
        | cells cs e fr =>
          refine ⟨cs, e, fr, hq, rfl, by simp, fun i v hv => ?_, fun h => by cases h⟩
          simp only [List.getElem?_map, Option.map_eq_some_iff] at hv
          obtain ⟨x, hx, rfl⟩ := hv
          exact ⟨x, by simpa using hx, conv2_rel w x⟩
        | _ => trivial
    · simp at h
  · unfold idE at h
    split at h
    · rename_i hb
      simp at h
      subst h
      exact ⟨hb, hb⟩
    · simp at h
  · exfalso
    simp only [WH] at ho
    split at ho <;> simp [XW] at ho
theorem absHeap2_cl (w : World) : Cl (WH w) := by
  refine ⟨fun b xs e rw h => ?_, fun b es h => ?_, fun _ => Nat.zero_lt_one⟩
  · simp only [WH] at h
    split at h
    · cases h
      intro v hv
      obtain ⟨x, _, rfl⟩ := List.mem_map.1 hv
      exact conv2_ad _ x
    · cases h
  · simp only [WH] at h
    split at h <;> cases h
theorem law_calls2 {P : Program} {prims : ZO} {hints : WE} (hp : PrimsOK P prims) (hm : P.follows .mixedOrders = true) {f : FuncId} {args : Array Value} {W : World} (hgl : Glob W.heap.size W)
    (h : ∃ n H', UW P prims hints n f (args.toList.map (convA2 W.heap.size)) (WH W) = some (.bool true, H')) :
    Calls P f args W fun e W' => e = .returned (.bool true) ∧ RowKit.Below W.heap.size W W' := by
  obtain ⟨n, H', h⟩ := h
  have hrel := absHeap2_rel P W hgl
  have hargs : RVs (idE W) (args.toList.map (convA2 W.heap.size)) args.toList := RVs.of_get (by simp) fun i v v' hv hv' => by
    simp only [List.getElem?_map, Option.map_eq_some_iff] at hv
    obtain ⟨x, hx, rfl⟩ := hv
    rw [hv'] at hx
    cases hx
    exact convA2_rel W v'
  have had : ADs (WH W).n (args.toList.map (convA2 W.heap.size)) := fun v hv => by
    obtain ⟨x, _, rfl⟩ := List.mem_map.1 hv
    exact convA2_ad _ x
  have := call_sound hp hm n f _ _ _ _ h (absHeap2_cl W) had _ _ W args.toList hrel hargs
  rw [Array.toArray_toList] at this
  refine this.mono ?_
  rintro e w' ⟨v', ι', rfl, hv, hr, hs⟩
  refine ⟨?_, hs.below hrel⟩
  cases hv
  rfl
variable {P : Program} {W : World}
theorem Zu {a : Addr} {v : Value} (h : W.cell? a = some v) : a.block < W.heap.size ∧ a.spot = none ∧ X4 ((WH W).f a.block) a.off = some (UN W.heap.size v) := by
  obtain ⟨cs, e, fr, h1, h2, h3⟩ := cell_abs h
  refine ⟨by rw [Array.getElem?_eq_some_iff] at h1; exact h1.1, h3, ?_⟩
  simp only [WH, h1, X4]
  rw [List.getElem?_map, Array.getElem?_toList, h2]
  rfl
section
variable {α : Type} {E : Enc α} {R : α → Prop} {H : Type} {enc : TypeId × Value → H}
theorem open_cell2 {t e e' : TypeId} {cs : List Value} {n : Nat} {y : DataW H × List MemPlace} (ht : P.underlying t = some (.slice e)) (hC : P.cellsOf e = E.w)
    (dec : 0 < W.heap.size → ∀ cs n y, DataW.trod enc P W 0 (fun _ => true) true n e cs = some y → cs.length = E.w → ∃ a, cs.map (UN W.heap.size) = E.enc a ∧ R a)
    (hpos : 0 < W.heap.size ∨ ∀ a, cs ≠ [.slice (some a) 0 0]) (hf : DataW.trod enc P W 0 (fun _ => true) true n t cs = some y) :
    ∃ v l, cs = [v] ∧ RdS E e' (WH W) (UN W.heap.size v) l ∧ (∀ a, a ∈ l → R a) ∧ l.length ≤ maxLen ∧ ∃ a k c, v = .slice a k c := by
  rcases DataW.trod_slice ht hf with ⟨rfl, _⟩ | ⟨a, len, cap, elems, rest, n, _, rfl, _, _, hl, hm, hlen, hel, hrest, _⟩
  · exact ⟨_, [], rfl, RdS.nil, by simp, by simp, _, _, _, rfl⟩
  · refine ⟨.slice (some a) len cap, ?_⟩
    have hone : ∀ i, i < len → ∃ x : α, R x ∧ ∀ j, j < E.w → ∃ c, W.cell? ((a.add (i * E.w)).add j) = some c ∧ (E.enc x)[j]? = some (UN W.heap.size c) := by
      intro i hi
      have h1 := hel i hi
      rw [List.getElem?_eq_getElem (by omega)] at h1
      obtain ⟨cs, hc, htr⟩ := Option.bind_eq_some_iff.1 h1
      rw [hC] at hc
      obtain ⟨_, hcl, hat⟩ := World.cells?_some hc
      have hp : 0 < W.heap.size := by
        have h2 := hat 0 E.pos
        have hpp := E.pos
        rw [List.getElem?_eq_getElem (by omega)] at h2
        have := (Zu h2).1
        omega
      obtain ⟨x, hx, hR⟩ := dec hp cs _ _ htr hcl
      refine ⟨x, hR, fun j hj => ?_⟩
      have hj' : j < cs.length := by omega
      refine ⟨cs[j], by rw [hat j hj, List.getElem?_eq_getElem hj'], ?_⟩
      rw [← hx, List.getElem?_map, List.getElem?_eq_getElem hj']
      rfl
    have hall : ∀ m, m ≤ len → ∃ l : List α, l.length = m ∧ (∀ x, x ∈ l → R x) ∧ ∀ i, ∀ h : i < l.length, ∀ j, j < E.w → ∃ c, W.cell? ((a.add (i * E.w)).add j) = some c ∧ (E.enc l[i])[j]? = some (UN W.heap.size c) := by
      intro m
      induction m with
      | zero => intro _; exact ⟨[], rfl, by simp, by simp⟩
      | succ m ih =>
        intro hm
        obtain ⟨l, h1, h2, h3⟩ := ih (by omega)
        obtain ⟨x, hR, hx⟩ := hone m (by omega)
        refine ⟨l ++ [x], by simp [h1], fun y hy => ?_, fun i hi j hj => ?_⟩
        · rcases List.mem_append.1 hy with hy | hy
          · exact h2 y hy
          · simp at hy; subst hy; exact hR
        · by_cases hil : i < l.length
          · rw [List.getElem_append_left hil]; exact h3 i hil j hj
          · have : i = m := by simp at hi; omega
            subst this
            rw [List.getElem_append_right (by omega)]
            simp only [h1, Nat.sub_self, List.getElem_cons_zero]
            exact hx j hj
    obtain ⟨l, hll, hR, hcell⟩ := hall len (Nat.le_refl _)
    refine ⟨l, rfl, ?_, hR, by omega, _, _, _, rfl⟩
    by_cases hc0 : cap = 0
    · -- no capacity
      have hl0 : len = 0 := by omega
      have h0 : l = [] := List.length_eq_zero_iff.1 (by omega)
      subst hc0 hl0 h0
      have hp : 0 < W.heap.size := hpos.resolve_right fun h => h a rfl
      have e1 : UN W.heap.size (.slice (some a) 0 0) = .slice (some ⟨0, 0, none⟩) 0 0 := by unfold UN; simp [hp]
      rw [e1]
      exact ⟨.inr (.inl ⟨rfl, _, _, rfl, rfl⟩), .inr ⟨0, 0, 0, 0, rfl, Nat.le_refl _, .inl rfl, hp⟩⟩
    · -- a cell stands at its place
      have hfirst : ∃ c, W.cell? a = some c := by
        have key : ∀ (o : Option (DataW H × List MemPlace)), (W.cells? 0 (a.add 0) (P.cellsOf e)).bind (DataW.trod enc P W 0 (fun _ => true) true n e) = o → (∃ z, o = some z) → ∃ c, W.cell? a = some c := fun o h1 ⟨z, h2⟩ => by
          rw [h2] at h1
          obtain ⟨cs, hc, _⟩ := Option.bind_eq_some_iff.1 h1
          rw [hC] at hc
          obtain ⟨_, hcl, hat⟩ := World.cells?_some hc
          have := hat 0 E.pos
          have hpp := E.pos
          rw [List.getElem?_eq_getElem (by omega)] at this
          exact ⟨_, by simpa [Addr.add] using this⟩
        by_cases h0 : len = 0
        · obtain ⟨h1, h2⟩ := hrest rfl
          have := h2 0 (by omega)
          rw [h0] at this
          simp only [Nat.add_zero, Nat.zero_mul] at this
          exact key _ this ⟨_, List.getElem?_eq_getElem (by omega)⟩
        · have := hel 0 (by omega)
          simp only [Nat.zero_mul] at this
          exact key _ this ⟨_, List.getElem?_eq_getElem (by omega)⟩
      obtain ⟨c0, hc0'⟩ := hfirst
      obtain ⟨hb, hs, _⟩ := Zu hc0'
      obtain ⟨b, o, s⟩ := a
      simp only at hs hb
      subst hs
      have hconv : UN W.heap.size (.slice (some ⟨b, o, none⟩) len cap) = .slice (some ⟨b, o, none⟩) l.length (2 * cap) := by
        have : UN W.heap.size (.slice (some ⟨b, o, none⟩) len cap) = conv W.heap.size (.slice (some ⟨b, o, none⟩) len cap) := by
          unfold UN
          split
          · rename_i h; cases h; exact absurd rfl hc0
          · rfl
        rw [this, hll]
        simp only [conv]
        rw [if_pos ⟨hb, hl⟩]
      rw [hconv]
      refine ⟨?_, .inr ⟨b, o, _, _, rfl, by omega, .inl (by omega), hb⟩⟩
      by_cases h0 : l = []
      · subst h0
        exact .inr (.inl ⟨rfl, _, _, rfl, rfl⟩)
      refine .inr (.inr ⟨b, o, _, rfl, h0, hb, ?_⟩)
      have hlp : 0 < l.length := List.length_pos_iff.2 h0
      refine cutB_of_cells (by simp) (Nat.mul_pos hlp E.pos) fun i hi => ?_
      have hw := E.pos
      have hdm : i = (i / E.w) * E.w + i % E.w := by rw [Nat.mul_comm]; exact (Nat.div_add_mod i E.w).symm
      have hmod : i % E.w < E.w := Nat.mod_lt _ hw
      have hdiv : i / E.w < l.length := Nat.div_lt_of_lt_mul (by rw [Nat.mul_comm]; exact hi)
      obtain ⟨c, hc, hec⟩ := hcell (i / E.w) hdiv (i % E.w) hmod
      have haddr : ((⟨b, o, none⟩ : Addr).add (i / E.w * E.w)).add (i % E.w) = ⟨b, o + i, none⟩ := by
        have : ∀ (x y z : Nat), ((⟨x, y, none⟩ : Addr).add z) = ⟨x, y + z, none⟩ := by
          intro x y z
          unfold Addr.add
          split
          · rename_i h; subst h; rfl
          · rfl
        rw [this, this, Nat.add_assoc, ← hdm]
      rw [haddr] at hc
      obtain ⟨_, _, habs⟩ := Zu hc
      rw [habs]
      have hel2 := E.cells_elem l (i / E.w) hdiv
      have : (E.cells l)[i]? = (E.enc l[i / E.w])[i % E.w]? := by
        rw [← hel2, List.getElem?_take_of_lt hmod, List.getElem?_drop, ← hdm]
      rw [this, hec]
theorem open_rd2 {t e e' : TypeId} {v : Value} {d : DataW H} {p : List MemPlace} (ht : P.underlying t = some (.slice e)) (hC : P.cellsOf e = E.w)
    (dec : 0 < W.heap.size → ∀ cs n y, DataW.trod enc P W 0 (fun _ => true) true n e cs = some y → cs.length = E.w → ∃ a, cs.map (UN W.heap.size) = E.enc a ∧ R a)
    (hval : Value.okWide P W .any 0 t v) (h : DataW.Trod enc P W 0 (fun _ => true) true t v d p) :
    ∃ l : List α, RdS E e' (WH W) (convA2 W.heap.size v) l ∧ (∀ a, a ∈ l → R a) ∧ l.length ≤ maxLen := by
  obtain ⟨a0, len0, cap0, rfl⟩ := Go.WideShapes.okWide_slice ht hval
  obtain ⟨fuel, hf⟩ := h
  have hpos : 0 < W.heap.size ∨ ∀ a, (Value.slice a0 len0 cap0).cells.toList ≠ [.slice (some a) 0 0] := by
    cases a0 with
    | none => exact .inr fun a h => by simp [Value.cells] at h
    | some a =>
      left
      simp only [Value.okWide, ht, Cell.okWide, Cell.ok] at hval
      obtain ⟨hle, _, _, hs, row, cells, hshape, _⟩ := hval
      unfold World.shape? at hshape
      split at hshape
      · rename_i hw; have := (Array.getElem?_eq_some_iff.1 hw).1; omega
      · cases hshape
  obtain ⟨v, l, hv, h1, h2, h3, _⟩ := open_cell2 (E := E) (R := R) (e' := e') ht hC dec hpos hf
  have hv : Value.slice a0 len0 cap0 = v := by simpa [Value.cells] using hv
  subst hv
  exact ⟨l, h1, h2, h3⟩
end
end Go.Proofs.YtmiinbhnfojnbaaDoor.Eng

namespace Go.Proofs.YtmiinbhnfojnbaaDoor.Eng
open Go
section
variable {P : Program} {W : World} {α : Type} {E : Enc α} {R : α → Prop} {H : Type} {enc : TypeId × Value → H}
end
end Go.Proofs.YtmiinbhnfojnbaaDoor.Eng

namespace Go.Proofs.YtmiinbhnfojnbaaDoor.Eng
open Go
variable {P : Program} {H H' : AHeap}
end Go.Proofs.YtmiinbhnfojnbaaDoor.Eng

namespace Go.Proofs.YtmiinbhnfojnbaaDoor.Eng
open Go
variable {P : Program} {B : Nat} {ι : Emb} {H : AHeap} {w : World}
inductive XCode where
  | base (c : DCode)
  | opq (c : Code) (sem : Env → AHeap → VC)
  | seq (a b : XCode)
  | cond (keep : List Nat) (c : Operand) (x y : XCode)
  | block (keep : List Nat) (id : Nat) (b : XCode)
  | loop (keep : List Nat) (b : XCode)
def W8 : XCode → Code
  | .base c => erase c
  | .opq c _ => c
  | .seq a b => .seq (W8 a) (W8 b)
  | .cond _ c x y => .cond c (W8 x) (W8 y)
  | .block _ id b => .block id (W8 b)
  | .loop _ b => .loop (W8 b)
def toX (o : DCode → Option (Env → AHeap → VC)) : DCode → XCode
  | .seq a b => match o (.seq a b) with | some s => .opq (erase (.seq a b)) s | none => .seq (toX o a) (toX o b)
  | .cond keep c x y => .cond keep c (toX o x) (toX o y)
  | .block keep id b => .block keep id (toX o b)
  | .loop keep b => .loop keep (toX o b)
  | c => .base c
theorem Uo (o : DCode → Option (Env → AHeap → VC)) : ∀ c, W8 (toX o c) = erase c
  | .seq a b => by
    unfold toX
    split
    · rfl
    · unfold W8 erase; rw [Uo o a, Uo o b]
  | .cond keep c x y => by unfold toX W8 erase; rw [Uo o x, Uo o y]
  | .block keep id b => by unfold toX W8 erase; rw [Uo o b]
  | .loop keep b => by unfold toX W8 erase; rw [Uo o b]
  | .skip => rfl
  | .region _ _ _ => rfl
  | .exit _ => rfl
  | .ret _ => rfl
  | .bad _ => rfl
noncomputable def XJ (P : Program) (N : Nat) (call : Yc) : XCode → Env → AHeap → VC
  | .base c, T, H => XA P N call c T H
  | .opq _ sem, T, H => sem T H
  | .seq a b, T, H => (XJ P N call a T H).bind fun r =>
    match r.1 with
    | .normal => XJ P N call b r.2.1 r.2.2
    | e => some (e, r.2.1, r.2.2)
  | .cond keep c x y, T, H =>
    match ev T c with
    | .bool b => (if b then XJ P N call x T H else XJ P N call y T H).map fun r => match r.1 with | .normal => (.normal, clr keep r.2.1, r.2.2) | e => (e, r.2.1, r.2.2)
    | _ => none
  | .block keep id b, T, H => (XJ P N call b T H).map fun r =>
    match r.1 with
    | .normal => (.normal, clr keep r.2.1, r.2.2)
    | .exit j => if j = id then (.normal, clr keep r.2.1, r.2.2) else (.exit j, r.2.1, r.2.2)
    | .ret => (.ret, r.2.1, r.2.2)
  | .loop keep b, T, H => loopI (XJ P N call b) keep T H
def Ql (P : Program) (N : Nat) : XCode → Prop
  | .base _ => True
  | .opq c sem => Z3 P N c sem ∧ Zk sem
  | .seq a b => Ql P N a ∧ Ql P N b
  | .cond _ _ x y => Ql P N x ∧ Ql P N y
  | .block _ _ b => Ql P N b
  | .loop _ b => Ql P N b
theorem dCodeI_fin {N : Nat} {C : Yc} {c : DCode} {T : Env} {H : AHeap} {r : DExit × Env × AHeap} (h : XA P N C c T H = some r) : ∃ n, Y5 P N C n c T H = some r := by
  obtain ⟨n, hn⟩ := Qj (P := P) (N := N) (C := C) (c := fun _ => C) (fun f args H r h => ⟨0, fun _ _ => h⟩) c h
  exact ⟨n, hn n (Nat.le_refl _)⟩
theorem QP {N : Nat} {call : Yc} (hc : XC call) : ∀ (c : XCode), Ql P N c → Zk (XJ P N call c)
  | .base c, _ => by
    intro T H x T' H' h hl ha
    obtain ⟨n, hn⟩ := dCodeI_fin (show XA P N call c T H = some (x, T', H') from h)
    exact Zh hc c _ _ _ _ _ hn hl ha
  | .opq c sem, g => g.2
  | .seq p q, g => by
    intro T H x T' H' h hl ha
    simp only [XJ, Option.bind_eq_some_iff] at h
    obtain ⟨⟨x1, T1, H1⟩, h1, h2⟩ := h
    have k := QP hc p g.1 _ _ _ _ _ h1 hl ha
    cases x1 with
    | normal => exact k.trans (QP hc q g.2 _ _ _ _ _ h2 k.cl k.at_)
    | exit id => simp at h2; obtain ⟨rfl, rfl, rfl⟩ := h2; exact k
    | ret => simp at h2; obtain ⟨rfl, rfl, rfl⟩ := h2; exact k
  | .cond keep c p q, g => by
    intro T H x T' H' h hl ha
    simp only [XJ] at h
    split at h
    · rename_i b hb
      simp only [Option.map_eq_some_iff] at h
      obtain ⟨⟨x1, T1, H1⟩, h1, h2⟩ := h
      have k : OkT H T1 H1 := by
        cases b with
        | true => exact QP hc p g.1 _ _ _ _ _ (by simpa using h1) hl ha
        | false => exact QP hc q g.2 _ _ _ _ _ (by simpa using h1) hl ha
      cases x1 with
      | normal => cases h2; exact k.clr keep
      | exit id => cases h2; exact k
      | ret => cases h2; exact k
    · simp at h
  | .block keep id p, g => by
    intro T H x T' H' h hl ha
    simp only [XJ, Option.map_eq_some_iff] at h
    obtain ⟨⟨x1, T1, H1⟩, h1, h2⟩ := h
    have k := QP hc p g _ _ _ _ _ h1 hl ha
    cases x1 with
    | normal => cases h2; exact k.clr keep
    | exit j =>
      simp only at h2
      split at h2
      · cases h2; exact k.clr keep
      · cases h2; exact k
    | ret => cases h2; exact k
  | .loop keep p, g => by
    intro T H x T' H' h hl ha
    simp only [XJ] at h
    obtain ⟨m, hm⟩ := Wn.1 h
    exact loop_ad (QP hc p g) keep m _ _ _ _ _ hm hl ha
theorem Vj {N : Nat} {call : Yc} (hc : Wo P call) (hca : XC call) (hm : P.follows .mixedOrders = true) : ∀ (c : XCode), Ql P N c → Z3 P N (W8 c) (XJ P N call c)
  | .base c, _ => by
    intro B ι T H a w x T' H' Q s h hQ
    obtain ⟨n, hn⟩ := dCodeI_fin (show XA P N call c T H = some (x, T', H') from h)
    exact VJ (n := n) hc hca hm c _ _ _ _ _ _ _ _ _ _ s hn hQ
  | .opq c sem, g => g.1
  | .seq p q, g => by
    intro B ι T H a w x T' H' Q s h hQ
    simp only [XJ, Option.bind_eq_some_iff] at h
    obtain ⟨⟨x1, T1, H1⟩, h1, h2⟩ := h
    refine wp_seq (Vj hc hca hm p g.1 _ _ _ _ _ _ _ _ _ _ s h1 ?_)
    intro ι' a' w' st hs
    cases x1 with
    | normal => exact Vj hc hca hm q g.2 _ _ _ _ _ _ _ _ _ _ st h2 fun ι'' a'' w'' st' hs' => hQ ι'' a'' w'' st' (hs.trans hs')
    | exit id =>
      simp at h2
      obtain ⟨rfl, rfl, rfl⟩ := h2
      exact hQ ι' a' w' st hs
    | ret =>
      simp at h2
      obtain ⟨rfl, rfl, rfl⟩ := h2
      exact hQ ι' a' w' st hs
  | .cond keep c p q, g => by
    intro B ι T H a w x T' H' Q s h hQ
    simp only [XJ] at h
    split at h
    · rename_i b hb
      have hr := s.tmps.ev c
      rw [hb] at hr
      have hc' : a.eval c = .bool b := by
        generalize hq : a.eval c = q' at hr
        cases hr
        rfl
      simp only [Option.map_eq_some_iff] at h
      obtain ⟨⟨x1, T1, H1⟩, h1, h2⟩ := h
      have key : ∀ ι' a' w', St P B N ι' T1 H1 a' w' → Stp ι H w ι' H1 w' → Q (toExit x1) a' w' := by
        intro ι' a' w' st hs
        cases x1 with
        | normal => cases h2; exact hQ ι' a' w' (st.clr keep) hs
        | exit id => cases h2; exact hQ ι' a' w' st hs
        | ret => cases h2; exact hQ ι' a' w' st hs
      cases b with
      | true => exact wp_cond_true hc' (Vj hc hca hm p g.1 _ _ _ _ _ _ _ _ _ _ s (by simpa using h1) key)
      | false => exact wp_cond_false hc' (Vj hc hca hm q g.2 _ _ _ _ _ _ _ _ _ _ s (by simpa using h1) key)
    · simp at h
  | .block keep id p, g => by
    intro B ι T H a w x T' H' Q s h hQ
    simp only [XJ, Option.map_eq_some_iff] at h
    obtain ⟨⟨x1, T1, H1⟩, h1, h2⟩ := h
    refine wp_block (Vj hc hca hm p g _ _ _ _ _ _ _ _ _ _ s h1 ?_)
    intro ι' a' w' st hs
    cases x1 with
    | normal => cases h2; exact hQ ι' a' w' (st.clr keep) hs
    | exit j =>
      simp only at h2
      simp only [toExit, Exit.inBlock]
      by_cases hj : j = id
      · rw [if_pos hj] at h2 ⊢
        cases h2
        exact hQ ι' a' w' (st.clr keep) hs
      · rw [if_neg hj] at h2 ⊢
        cases h2
        exact hQ ι' a' w' st hs
    | ret => cases h2; exact hQ ι' a' w' st hs
  | .loop keep p, g => by
    intro B ι T H a w x T' H' Q s h hQ
    simp only [XJ] at h
    obtain ⟨m, hm'⟩ := Wn.1 h
    exact wp_loop_rounds m (loop_sound (Vj hc hca hm p g) keep m s hm' hQ)
noncomputable def W5 (P : Program) (N : Nat) (call : Yc) : XCode → Env → AHeap → K → Res
  | .base c, T, H, k => Vm Yd P N call Yo c T H k
  | .opq _ sem, T, H, k => (sem T H).bind fun r => k r.1 r.2.1 r.2.2
  | .seq a b, T, H, k => W5 P N call a T H (Ys (fun T' H' => W5 P N call b T' H' k) k)
  | .cond keep c x y, T, H, k => Ym (ev T c) (fun k => W5 P N call x T H (Yl keep k)) (fun k => W5 P N call y T H (Yl keep k)) k
  | .block keep id b, T, H, k => Yg (fun k => W5 P N call b T H (YI keep id k)) k
  | .loop keep b, T, H, k => Yo (W5 P N call b) keep (clr keep T) H k
theorem Vc {N : Nat} {call : Yc} : ∀ (c : XCode), PieceK (XJ P N call c) (W5 P N call c)
  | .base c => WQ c
  | .opq _ _ => fun _ _ _ => rfl
  | .seq a b => fun T H k => by
    rw [W5, XJ, Vc a]
    cases XJ P N call a T H with
    | none => rfl
    | some r =>
      obtain ⟨e, T', H'⟩ := r
      cases e with
      | normal => simp only [Option.bind_some, Ys]; exact Vc b T' H' k
      | exit i => rfl
      | ret => rfl
  | .cond keep c x y => fun T H k => by
    rw [W5, XJ]
    unfold Ym
    cases ev T c with
    | bool b =>
      cases b with
      | true =>
        have hx := Vc (N := N) (call := call) x T H (Yl keep k)
        simp only [if_true]
        rw [hx]
        cases XJ P N call x T H with
        | none => rfl
        | some r => obtain ⟨e, T', H'⟩ := r; cases e <;> rfl
      | false =>
        have hy := Vc (N := N) (call := call) y T H (Yl keep k)
        simp only [Bool.false_eq_true, if_false]
        rw [hy]
        cases XJ P N call y T H with
        | none => rfl
        | some r => obtain ⟨e, T', H'⟩ := r; cases e <;> rfl
    | _ => rfl
  | .block keep id b => fun T H k => by
    rw [W5, XJ]
    unfold Yg
    dsimp only
    rw [Vc b]
    cases XJ P N call b T H with
    | none => rfl
    | some r =>
      obtain ⟨e, T', H'⟩ := r
      cases e with
      | normal => rfl
      | exit j => simp only [Option.bind_some, Option.map_some, YI]; split <;> rfl
      | ret => rfl
  | .loop keep b => fun T H k => by
    rw [W5, XJ]
    exact ZY (Vc b) keep T H k
theorem limLP_roundX {N : Nat} {call : Yc} (c : XCode) (keep : List Nat) {T : Env} (hT : clr keep T = T) (H : AHeap) (k : K) :
    Yo (W5 P N call c) keep T H k = W5 P N call c T H (Yl keep (Ys (fun T H => Yo (W5 P N call c) keep T H k) k)) := by
  have e1 := ZY (Vc (P := P) (N := N) (call := call) c) keep T H k
  rw [hT] at e1
  rw [e1, loopI_unfold, hT, Vc c]
  cases XJ P N call c T H with
  | none => rfl
  | some r =>
    obtain ⟨e, T', H'⟩ := r
    cases e with
    | normal => simp only [Option.bind_some]; exact (ZY (Vc (P := P) (N := N) (call := call) c) keep T' H' k).symm
    | exit i => rfl
    | ret => rfl
noncomputable def xBody (P : Program) (call : Yc) (fn : Func) (c : XCode) (args : List Value) (H : AHeap) : Res := W5 P fn.ntmps call c (Ur 0 args) H (Yi P fn.results.toList)
theorem xBody_some {call : Yc} {fn : Func} {c : XCode} {args : List Value} {H : AHeap} {r : Value × AHeap} (h : xBody P call fn c args H = some r) :
    ∃ x T1 H1 l, XJ P fn.ntmps call c (Ur 0 args) H = some (x, T1, H1) ∧ (∀ i, x ≠ .exit i) ∧ Wt P H1 T1 fn.results.toList = some l ∧ r = (XY l, H1) := by
  unfold xBody at h
  rw [Vc] at h
  obtain ⟨⟨x, T1, H1⟩, h1, h2⟩ := Option.bind_eq_some_iff.1 h
  cases x with
  | exit i => cases h2
  | normal =>
    simp only [Yi, Ww] at h2
    obtain ⟨l, hl, h3⟩ := Option.bind_eq_some_iff.1 h2
    cases h3
    exact ⟨.normal, T1, H1, l, h1, fun i h => (by cases h), hl, rfl⟩
  | ret =>
    simp only [Yi, Ww] at h2
    obtain ⟨l, hl, h3⟩ := Option.bind_eq_some_iff.1 h2
    cases h3
    exact ⟨.ret, T1, H1, l, h1, fun i h => (by cases h), hl, rfl⟩
theorem xbody_ad {call : Yc} (hc : XC call) {fn : Func} {c : XCode} (hg : Ql P fn.ntmps c) {args : List Value} {H H' : AHeap} {v : Value} (h : xBody P call fn c args H = some (v, H')) (hl : Cl H) (ha : ADs H.n args) : OkV H H' v := by
  obtain ⟨x, T1, H1, l, h1, _, h3, h4⟩ := xBody_some h
  cases h4
  have k := QP hc c hg _ _ _ _ _ h1 hl (AT.args ha)
  exact ⟨k.cl, resultOf_ad (Gd k.cl k.at_ h3), k.vo⟩
theorem xbody_sound {call : Yc} (hc : Wo P call) (hca : XC call) (hm : P.follows .mixedOrders = true) {f : FuncId} {fn : Func} {c : XCode} (hf : P.funcs[f]? = some fn) (hb : fn.body = some (W8 c)) (hg : Ql P fn.ntmps c) :
    Wo P fun g args H => if g = f then xBody P call fn c args H else none := by
  intro g args H v H' h hcl had B ι w args' r ha
  by_cases hgf : g = f
  · subst hgf
    simp only [if_true] at h
    obtain ⟨x, T1, H1, l, h1, hx, h3, h4⟩ := xBody_some h
    cases h4
    refine calls_of_wp hf hb ?_
    have s : St P B fn.ntmps ι (Ur 0 args) H { tmps := args'.toArray ++ Array.replicate (fn.ntmps - args'.toArray.size) undef, defers := [] } w := ⟨r, args_sound ha _, rfl, hcl, AT.args had⟩
    refine Vj hc hca hm c hg _ _ _ _ _ _ _ _ _ (bodyPost P fn fun e w' => ∃ v' ι', e = .returned v' ∧ RV ι' (XY l) v' ∧ Rel P B ι' H' w' ∧ Stp ι H w ι' H' w') s h1 ?_
    intro ι' a' w' st hs
    have fin : a'.defers = [] ∧ ∃ u, (results fn a'.tmps).run P w' = .ok u w' ∧ ∃ v' ι', Ending.returned u = .returned v' ∧ RV ι' (XY l) v' ∧ Rel P B ι' H' w' ∧ Stp ι H w ι' H' w' := by
      obtain ⟨l', h5, h6⟩ := Zx st h3
      refine ⟨st.defers, _, ?_, _, ι', rfl, resultOf_sound h5, st.rel, hs⟩
      have he : results fn a'.tmps = (do let vs ← fn.results.mapM (resSem a'.tmps); pure (if h : vs.size = 1 then vs[0] else .tuple vs)) := by
        unfold results
        congr 1
      rw [he, Array.mapM_eq_mapM_toList]
      simp only [Sem.run_bind, Sem.run_map]
      rw [h6]
      rfl
    cases x with
    | normal => exact fin
    | exit id => exact absurd rfl (hx id)
    | ret => exact fin
  · simp [hgf] at h
noncomputable def xPrim (P : Program) (call : Yc) (fn : Func) (c : XCode) (args : List Value) (H : AHeap) : Res := (xBody P call fn c args H).map (tidy H)
theorem x_prim {call : Yc} (hc : Wo P call) (hca : XC call) (hm : P.follows .mixedOrders = true) {f : FuncId} {fn : Func} {c : XCode} (hf : P.funcs[f]? = some fn) (hb : fn.body = some (W8 c)) (hg : Ql P fn.ntmps c) :
    (XC fun _ args H => xPrim P call fn c args H) ∧ Wo P fun g args H => if g = f then xPrim P call fn c args H else none := by
  constructor
  · intro _ args H v H' h hl ha
    obtain ⟨r, h1, h2⟩ := Option.map_eq_some_iff.1 h
    exact tidy_ad hl (xbody_ad hca hg h1 hl ha) h2
  · intro g args H v H' h hcl had B ι w args' r ha
    by_cases hgf : g = f
    · subst hgf
      simp only [if_true] at h
      obtain ⟨⟨v0, H0⟩, h1, h2⟩ := Option.map_eq_some_iff.1 h
      have := xbody_sound hc hca hm hf hb hg g args H v0 H0 (by simp only [if_true]; exact h1) hcl had B ι w args' r ha
      refine this.mono ?_
      rintro e w' ⟨v', ι', rfl, hv, hr, hs⟩
      unfold tidy at h2
      split at h2
      · rename_i hg
        simp only [Bool.and_eq_true] at hg
        cases h2
        obtain ⟨g1, g2, g3⟩ := tidy_sound hcl r hg.2 hg.1 hv hr hs
        exact ⟨v', ι, rfl, g1, g2, g3⟩
      · cases h2
        exact ⟨v', ι', rfl, hv, hr, hs⟩
    · simp [hgf] at h
end Go.Proofs.YtmiinbhnfojnbaaDoor.Eng

namespace Go.Proofs.YtmiinbhnfojnbaaDoor.Eng
open Go
open Go.ChangeMaps (setBlock)
variable {P : Program} {B : Nat} {ι : Emb} {H : AHeap} {w : World}
theorem ZV {ops : Array Oper} {Q : Exit → Act → World → Prop} {o : Oper} {i : Nat} {K : Act → World → Prop} {a : Act} {w w' : World} {v : Value} (hi : ops[i]? = some o) (hg : o.guard = none)
    (hr : (execOp a.eval o).run P w = .ok (.value v) w') (hK : K (a.put o.dst v) w') : wpOp P ops Q i K a w := by
  unfold wpOp
  simp only [hi]
  have : Region.wanted o (yielded ops a.tmps) = true := by unfold Region.wanted; rw [hg]
  rw [this]
  simp only [if_true]
  refine .inl ?_
  unfold Oper.wp
  rw [hr]
  exact hK
theorem Zq (w : World) (k : Nat) (o : Obj) : (setBlock w k o).heap.size = w.heap.size := by unfold setBlock; simp
theorem QC (w : World) {k c : Nat} (o : Obj) (h : c ≠ k) : (setBlock w k o).heap[c]? = w.heap[c]? := by
  unfold setBlock; simp [Array.getElem?_setIfInBounds_ne (Ne.symm h)]
theorem setBlock_at (w : World) {k : Nat} (o : Obj) (h : k < w.heap.size) : (setBlock w k o).heap[k]? = some o := by
  unfold setBlock; simp [h]
theorem Rel.dust (r : Rel P B ι H w) {k : Nat} (o : Obj) (hB : B ≤ k) (hf : ∀ b L, ι b = some L → Xf (H.f b) = true → L.cb ≠ k) : Rel P B ι H (setBlock w k o) := by
  refine ⟨fun b L h => ?_, fun b L h => by rw [Zq]; exact r.lt b L h, r.inj, by rw [Zq]; exact r.base, r.ver, r.glob.keep (Nat.le_refl _) fun c hc => QC w o (by omega)⟩
  by_cases hal : Xf (H.f b) = true
  · exact (r.blk b L h).keep (QC w o (hf b L h hal))
  · cases hq : H.f b with
    | dead => trivial
    | _ => simp [hq, Xf] at hal
theorem Stp.dust {ι' : Emb} {H' : AHeap} {w' : World} (s : Stp ι H w ι' H' w') {k : Nat} (o : Obj) (hk : w.heap.size ≤ k) : Stp ι H w ι' H' (setBlock w' k o) :=
  ⟨s.ext, s.hn, by rw [Zq]; exact s.wn, s.os, s.tape, s.output, fun c hc h => by rw [QC w' o (by omega)]; exact s.fr c hc h, s.new, s.own, s.vo⟩
theorem Stp.sameWorld {ι' : Emb} {H' : AHeap} {w' w'' : World} (s : Stp ι H w ι' H' w') (h1 : w''.heap = w'.heap) (h2 : w''.os = w'.os) (h3 : w''.tape = w'.tape) (h4 : w''.output = w'.output) : Stp ι H w ι' H' w'' :=
  ⟨s.ext, s.hn, by rw [h1]; exact s.wn, h2.trans s.os, h3.trans s.tape, h4.trans s.output, fun c hc h => by rw [h1]; exact s.fr c hc h, s.new, s.own, s.vo⟩
structure RC where
  i0 : Nat
  ops0 : Array Oper
  idB : Nat
  i1 : Nat
  ops1 : Array Oper
  tb : Nat
  idC : Nat
  i2 : Nat
  ops2 : Array Oper
  rest : XCode
  keepL : List Nat
  keepB : List Nat
  mv : Nat
  it : Nat
  tn : Nat
  te : Nat
  ty : TypeId
  o00 : Oper
  o01 : Oper
  o10 : Oper
  o11 : Oper
  o20 : Oper
def RC.code (c : RC) : Code := .seq (.region c.i0 c.ops0 false) (.block c.idB (.loop (.seq (.region c.i1 c.ops1 false) (.seq (.cond (.tmp c.tb) .skip (.exit c.idB)) (.block c.idC (.seq (.region c.i2 c.ops2 false) (W8 c.rest)))))))
structure RC.Ok (P : Program) (N : Nat) (c : RC) : Prop where
  s0 : c.ops0 = #[c.o00, c.o01]
  s1 : c.ops1 = #[c.o10, c.o11]
  s2 : c.ops2[0]? = some c.o20
  p01 : c.o01.op = .range c.ty (.tmp c.mv) ∧ c.o01.guard = none ∧ c.o01.dst = some c.it
  p10 : c.o10.op = .next (.tmp c.it) false ∧ c.o10.guard = none ∧ c.o10.dst = some c.tn
  p11 : c.o11.op = .extract (.tmp c.tn) 0 ∧ c.o11.guard = none ∧ c.o11.dst = some c.tb
  p20 : c.o20.op = .entry (.tmp c.it) ∧ c.o20.guard = none ∧ c.o20.dst = some c.te
  ty : ∃ k e, P.underlying c.ty = some (.map k e)
  lt : c.it < N ∧ c.tn < N ∧ c.tb < N ∧ c.te < N
  ne : c.it ≠ c.tn ∧ c.it ≠ c.tb
def RC.heap (H : AHeap) (b : Nat) : AHeap := (H.push .dead).set b .dead
def RC.env0 (c : RC) (T : Env) (H : AHeap) (v : Value) : Env := put (put T c.o00.dst v) (some c.it) (.pointer (some ⟨H.n, 0, none⟩))
def RC.envN (c : RC) (T : Env) (go : Bool) : Env := put (put T (some c.tn) (.chan none)) (some c.tb) (.bool go)
structure Ranges (P : Program) (N : Nat) (call : Yc) (c : RC) (T : Env) (H : AHeap) (T' : Env) (v : Value) (b : Nat) (es : List (Value × Value)) (I : List Value → Env → Prop) : Prop where
  start : UG P N call c.ops0 c.o00 T H = some (v, H)
  at_ : get (put T c.o00.dst v) c.mv = .map (some b)
  map : H.f b = .map es
  keys : ∀ p ∈ es, gr 3 p.1 = true
  nd : (es.map (·.1)).Nodup
  init : I [] (clr c.keepL (c.env0 T H v))
  iter : ∀ seen T1, I seen T1 → get T1 c.it = .pointer (some ⟨H.n, 0, none⟩)
  round : ∀ seen T1 p, I seen T1 → p ∈ es → p.1 ∉ seen → ∃ T2 H2 x T3, ZS P N call c.ops2 (c.ops2.toList.drop 1) (put (c.envN T1 true) (some c.te) (.tuple #[p.1, p.2])) (RC.heap H b) = some (T2, H2) ∧
    XJ P N call c.rest T2 H2 = some (x, T3, RC.heap H b) ∧ (x = .normal ∨ x = .exit c.idC) ∧ I (p.1 :: seen) (clr c.keepL T3)
  done : ∀ seen T1, I seen T1 → (∀ p ∈ es, p.1 ∈ seen) → clr c.keepB (c.envN T1 false) = T'
  ad : ∀ p ∈ T', get T p.1 = p.2 ∨ gr 3 p.2 = true
def Ranged (P : Program) (N : Nat) (call : Yc) (c : RC) (T : Env) (H : AHeap) (T' : Env) : Prop := ∃ v b es I, Ranges P N call c T H T' v b es I
theorem AT_of {n : Nat} {T T' : Env} (h : ∀ p ∈ T', get T p.1 = p.2 ∨ gr 3 p.2 = true) (a : AT n T) : AT n T' := fun t => by
  induction T' with
  | nil => exact .unk
  | cons p T' ih =>
    obtain ⟨s, v⟩ := p
    rw [Vq]
    split
    · rcases h (s, v) (by simp) with h1 | h1
      · have := a s; rw [h1] at this; exact this
      · exact AD.of_gr h1
    · exact ih fun p hp => h p (List.mem_cons_of_mem _ hp)
theorem Ranged.one {N : Nat} {call : Yc} {c : RC} {T : Env} {T1 T2 : Env} (h1 : Ranged P N call c T H T1) (h2 : Ranged P N call c T H T2) : T1 = T2 := by
  obtain ⟨v, b, es, I, h1⟩ := h1
  obtain ⟨v', b', es', J, h2⟩ := h2
  have e1 := h1.start; rw [h2.start] at e1; cases e1
  have e2 := h1.at_; rw [h2.at_] at e2; cases e2
  have e3 := h1.map; rw [h2.map] at e3; cases e3
  have nd := h1.nd
  have key : ∀ (l : List (Value × Value)) (seen : List Value) (U : Env), (∀ p ∈ l, p ∈ es) → (l.map (·.1)).Nodup → (∀ p ∈ l, p.1 ∉ seen) → (∀ p ∈ es, p ∈ l ∨ p.1 ∈ seen) → I seen U → J seen U → T1 = T2 := by
    intro l
    induction l with
    | nil =>
      intro seen U _ _ _ h i j
      have hd : ∀ p ∈ es, p.1 ∈ seen := fun p hp => by simpa using h p hp
      exact (h1.done seen U i hd).symm.trans (h2.done seen U j hd)
    | cons p l ih =>
      intro seen U hl hnd hns hall i j
      obtain ⟨A, HA, x, C, k1, k2, k3, k4⟩ := h1.round seen U p i (hl p (by simp)) (hns p (by simp))
      obtain ⟨A', HA', x', C', m1, m2, m3, m4⟩ := h2.round seen U p j (hl p (by simp)) (hns p (by simp))
      rw [k1] at m1; cases m1
      rw [k2] at m2; cases m2
      have hnd' := List.nodup_cons.1 hnd
      refine ih (p.1 :: seen) (clr c.keepL C) (fun q hq => hl q (List.mem_cons_of_mem _ hq)) hnd'.2 (fun q hq => ?_) (fun q hq => ?_) k4 m4
      · intro hc
        rcases List.mem_cons.1 hc with h | h
        · exact hnd'.1 (List.mem_map.2 ⟨q, hq, h⟩)
        · exact hns q (List.mem_cons_of_mem _ hq) h
      · rcases hall q hq with h | h
        · rcases List.mem_cons.1 h with h | h
          · subst h; exact .inr (by simp)
          · exact .inl h
        · exact .inr (List.mem_cons_of_mem _ h)
  exact key es [] _ (fun p hp => hp) nd (fun p hp => by simp) (fun p hp => .inl hp) h1.init h2.init
open Classical in
noncomputable def RC.sem (P : Program) (N : Nat) (call : Yc) (c : RC) (T : Env) (H : AHeap) : VC := if h : ∃ T', Ranged P N call c T H T' then some (.normal, h.choose, H) else none
theorem RC.sem_eq {N : Nat} {call : Yc} {c : RC} {T T' : Env} (h : Ranged P N call c T H T') : c.sem P N call T H = some (.normal, T', H) := by
  unfold RC.sem
  rw [dif_pos ⟨T', h⟩]
  exact congrArg some (congrArg (fun x => (DExit.normal, x, H)) ((Exists.choose_spec (p := fun T' => Ranged P N call c T H T') ⟨T', h⟩).one h))
theorem RC.sem_some {N : Nat} {call : Yc} {c : RC} {T T' : Env} {x : DExit} {H' : AHeap} (h : c.sem P N call T H = some (x, T', H')) : x = .normal ∧ H' = H ∧ Ranged P N call c T H T' := by
  unfold RC.sem at h
  split at h
  · rename_i hx
    cases h
    exact ⟨rfl, rfl, hx.choose_spec⟩
  · cases h
theorem RC.ad {N : Nat} {call : Yc} (c : RC) : Zk (c.sem P N call) := by
  intro T H x T' H' h hl ha
  obtain ⟨rfl, rfl, v, b, es, I, r⟩ := RC.sem_some h
  exact ⟨hl, AT_of r.ad ha, VO.refl _⟩
theorem up_eq {ι : Emb} {n : Nat} {L : Loc} : up ι n L n = some L := by simp [up]
theorem up_ne {ι : Emb} {n b : Nat} {L : Loc} (h : b ≠ n) : up ι n L b = ι b := by simp [up, h]
theorem RC.heap_f {b c : Nat} (h1 : c ≠ b) (h2 : c ≠ H.n) : (RC.heap H b).f c = H.f c := by
  unfold RC.heap
  rw [AHeap.set_other _ _ h1, AHeap.push_old _ _ h2]
theorem RC.heap_b {b : Nat} : (RC.heap H b).f b = .dead := by unfold RC.heap; simp
theorem RC.heap_n {b : Nat} : (RC.heap H b).n = H.n + 1 := rfl
theorem RC.heap_new {b : Nat} (h : b ≠ H.n) : (RC.heap H b).f H.n = .dead := by
  unfold RC.heap
  rw [AHeap.set_other _ _ (Ne.symm h), AHeap.push_new]
theorem nodup_inj {α β : Type} (f : α → β) : ∀ (l : List α), (l.map f).Nodup → ∀ x ∈ l, ∀ y ∈ l, f x = f y → x = y
  | [], _, x, hx, _, _, _ => by simp at hx
  | a :: l, h, x, hx, y, hy, e => by
    have h' := List.nodup_cons.1 h
    rcases List.mem_cons.1 hx with rfl | hx'
    · rcases List.mem_cons.1 hy with rfl | hy'
      · rfl
      · exact absurd (List.mem_map.2 ⟨y, hy', e.symm⟩) h'.1
    · rcases List.mem_cons.1 hy with rfl | hy'
      · exact absurd (show f y ∈ l.map f from List.mem_map.2 ⟨x, hx', e⟩) (List.nodup_cons.1 h).1
      · exact nodup_inj f l h'.2 x hx' y hy' e
structure RSt (P : Program) (B N : Nat) (c : RC) (I : List Value → Env → Prop) (ι : Emb) (H : AHeap) (b : Nat) (L : Loc) (ents : Array MapEntry) (clock : Nat) (w1 : World) (seen : List Value) (T : Env) (a : Act) (w : World) (sa : Array Nat) (c0 : Nat) : Prop where
  st : St P B N (up ι H.n ⟨w1.heap.size, 0, 0, 0⟩) T (RC.heap H b) a w
  stp : Stp ι H w1 (up ι H.n ⟨w1.heap.size, 0, 0, 0⟩) (RC.heap H b) w
  mp : w.heap[L.cb]? = some (.map ents clock)
  it : w.heap[w1.heap.size]? = some (.mapIter (some L.cb) clock sa c0)
  ck : clock ≤ c0
  sn : ∀ e ∈ ents.toList, sa.contains e.born = true ↔ e.key ∈ seen
  inv : I seen T
theorem extract_run {x : Array Value} {v : Value} {w : World} (h : x[0]? = some v) : (Instr.extract (.tuple x) 0).run P w = .ok v w := by
  simp [Instr.extract, h]
theorem range_rounds {N : Nat} {call : Yc} (hc : Wo P call) (hca : XC call) (hm : P.follows .mixedOrders = true) {c : RC} (ok : c.Ok P N) (hg : Ql P N c.rest) {T0 T' : Env} {v : Value} {b : Nat} {es : List (Value × Value)} {I : List Value → Env → Prop}
    (R : Ranges P N call c T0 H T' v b es I) {ι : Emb} {w1 : World} (r1 : Rel P B ι H w1) (hcl : Cl H) (hat : AT H.n T0) {L : Loc} (hL : ι b = some L) {ents : Array MapEntry} {clock : Nat} (hmr : MapRel ι es ents clock)
    {Q : Exit → Act → World → Prop} (hQ : ∀ a' w', St P B N ι T' H a' w' → Stp ι H w1 ι H w' → Q .normal a' w') :
    ∀ (m : Nat) (seen : List Value) (T : Env) (a : Act) (w : World) (sa : Array Nat) (c0 : Nat), RSt P B N c I ι H b L ents clock w1 seen T a w sa c0 → (leftOf ents sa).size < m →
      Code.rounds P (.seq (.region c.i1 c.ops1 false) (.seq (.cond (.tmp c.tb) .skip (.exit c.idB)) (.block c.idC (.seq (.region c.i2 c.ops2 false) (W8 c.rest))))) (Exit.inBlock c.idB Q) m a w := by
  have hbn : b < H.n := r1.dom b L hL
  have hlow : low H.n (up ι H.n ⟨w1.heap.size, 0, 0, 0⟩) = ι := low_eq r1.dom fun c hc => up_ne (by omega)
  have hup : ∀ b' L', ι b' = some L' → up ι H.n ⟨w1.heap.size, 0, 0, 0⟩ b' = some L' := fun b' L' h => by rw [up_ne (Nat.ne_of_lt (r1.dom b' L' h))]; exact h
  have hob : XW (H.f b) = true := by rw [R.map]; rfl
  have hfree : ∀ b' L', up ι H.n ⟨w1.heap.size, 0, 0, 0⟩ b' = some L' → Xf ((RC.heap H b).f b') = true → L'.cb ≠ L.cb ∧ L'.cb < w1.heap.size := by
    intro b' L' h1 h2
    by_cases e1 : b' = H.n
    · subst e1; rw [RC.heap_new (Nat.ne_of_lt hbn)] at h2; cases h2
    · by_cases e2 : b' = b
      · subst e2; rw [RC.heap_b] at h2; cases h2
      · rw [up_ne e1] at h1
        rw [RC.heap_f e2 e1] at h2
        exact ⟨fun h => r1.inj b b' L L' hL h1 (Ne.symm e2) hob h2 h.symm, (r1.lt b' L' h1).2⟩
  intro m
  induction m with
  | zero => intro seen T a w sa c0 s h; omega
  | succ m ih =>
    intro seen T a w sa c0 s hlt
    rw [rounds_succ]
    have hsz : w1.heap.size < w.heap.size := by
      rcases Nat.lt_or_ge w1.heap.size w.heap.size with h | h
      · exact h
      · have := s.it; rw [Array.getElem?_eq_none h] at this; cases this
    have hit : a.eval (.tmp c.it) = .pointer (some ⟨w1.heap.size, 0, none⟩) := by
      have h := s.st.tmps.ev (.tmp c.it)
      rw [show ev T (.tmp c.it) = get T c.it from rfl, R.iter seen T s.inv] at h
      generalize hq : a.eval (.tmp c.it) = q at h
      cases h with
      | ptr h => rw [up_eq] at h; cases h; rfl
    refine wp_seq (wp_region ?_)
    rw [ok.s1]
    show wpOps P #[c.o10, c.o11] _ [0, 1] a w
    rw [wpOps_cons]
    rcases run_next_at (P := P) w c.o10.type w1.heap.size L.cb clock c0 sa ents clock s.it s.mp hmr.clk s.ck with ⟨h0, hr⟩ | ⟨e, he, wd, hwd, hr⟩
    · -- nothing is left
      refine ZV (o := c.o10) rfl ok.p10.2.1 (v := .tuple #[.bool false]) (w' := w) (by rw [execOp, ok.p10.1]; simp only [hit, Sem.run_bind, Sem.run_map, hr]; rfl) ?_
      rw [wpOps_cons]
      rw [ok.p10.2.2]
      have st1 := s.st.next (v := .chan none) (v' := .tuple #[.bool false]) (dst := some c.tn) (.unk _) s.st.rel (Stp.refl _ _ _ s.st.rel.dom) (by simp [UY, ok.lt]) (OkV.still s.st.cl .unk)
      have htn : (a.put (some c.tn) (.tuple #[.bool false])).eval (.tmp c.tn) = .tuple #[.bool false] := by
        have : c.tn < a.tmps.size := Nat.lt_of_lt_of_le ok.lt.2.1 s.st.tmps.1
        simp [Act.put, Act.eval, this]
      refine ZV (o := c.o11) rfl ok.p11.2.1 (v := .bool false) (w' := w) (by rw [execOp, ok.p11.1]; simp only [htn, Sem.run_bind, Sem.run_map, extract_run (show (#[Value.bool false] : Array Value)[0]? = some (.bool false) from rfl)]; rfl) ?_
      rw [ok.p11.2.2]
      have st2 := st1.next (v := .bool false) (v' := .bool false) (dst := some c.tb) (.bool _) st1.rel (Stp.refl _ _ _ st1.rel.dom) (by simp [UY, ok.lt]) (OkV.still st1.cl (AD.of_gr (k := 1) rfl))
      show Exit.then _ _ .normal _ w
      refine wp_seq (wp_cond_false ?_ (wp_exit ?_))
      · have h := st2.tmps.ev (.tmp c.tb)
        generalize hq : Act.eval _ _ = q at h
        simp only [ev, put, Vq, if_true] at h
        cases h; rfl
      · show Exit.inBlock c.idB Q (.exit c.idB) _ w
        simp only [Exit.inBlock, if_true]
        have hd := R.done seen T s.inv (fun p hp => by
          obtain ⟨e, he, hk, _⟩ := hmr.fwd p hp
          rw [← hk]
          exact (s.sn e he).1 (all_seen ents sa h0 e he))
        have st3 := st2.clr c.keepB
        rw [show clr c.keepB (put (put T (some c.tn) (.chan none)) (some c.tb) (.bool false)) = T' from hd] at st3
        have hat' : AT H.n T' := AT_of R.ad hat
        refine hQ _ w ⟨?_, ⟨st3.tmps.1, fun t => ?_⟩, st3.defers, hcl, hat'⟩ ?_
        · refine ⟨fun b' L' h => ?_, fun b' L' h => ⟨(r1.lt b' L' h).1, Nat.lt_of_lt_of_le (r1.lt b' L' h).2 s.stp.wn⟩, r1.inj, Nat.le_trans r1.base s.stp.wn, r1.ver, s.st.rel.glob⟩
          by_cases hb : b' = b
          · subst hb
            rw [hL] at h; cases h
            rw [R.map]
            have h0 := r1.blk b' L hL
            rw [R.map] at h0
            exact ⟨h0.1, ents, clock, s.mp, hmr⟩
          · have h2 := s.st.rel.blk b' L' (hup b' L' h)
            rw [RC.heap_f hb (Nat.ne_of_lt (r1.dom b' L' h))] at h2
            have h3 := h2.lowCl hcl
            rwa [hlow] at h3
        · have := (st3.tmps.2 t).low (hat' t)
          rwa [hlow] at this
        · exact ⟨fun _ _ => rfl, Nat.le_refl _, s.stp.wn, s.stp.os, s.stp.tape, s.stp.output, s.stp.fr, fun b L hb h => absurd (r1.dom b L h) (by omega), fun _ _ _ _ h => h, VO.refl _⟩
    · -- a round
      have hml := mem_left he
      have hke : e.key ∉ seen := fun h => by have := (s.sn e hml.1).2 h; rw [hml.2] at this; cases this
      obtain ⟨p, hp, hpk⟩ := hmr.bwd e hml.1
      obtain ⟨e', he', hk', hv'⟩ := hmr.fwd p hp
      have hee : e' = e := by
        have hinj : ∀ x ∈ ents.toList, ∀ y ∈ ents.toList, x.key = y.key → x = y := fun x hx y hy h => nodup_inj (·.key) _ hmr.ckeys x hx y hy h
        exact hinj e' he' e hml.1 (hk'.trans hpk)
      subst hee
      have hwh : wd.heap = w.heap := by rcases hwd with rfl | rfl <;> rfl
      have rd : Rel P B (up ι H.n ⟨w1.heap.size, 0, 0, 0⟩) (RC.heap H b) wd := s.st.rel.congr hwh
      have sd : Stp ι H w1 (up ι H.n ⟨w1.heap.size, 0, 0, 0⟩) (RC.heap H b) wd := by
        rcases hwd with rfl | rfl
        · exact s.stp
        · exact s.stp.sameWorld rfl rfl rfl rfl
      have rb := rd.dust (k := w1.heap.size) (.mapIter (some L.cb) clock (sa.push e'.born) clock) r1.base (fun b' L' h1 h2 => Nat.ne_of_lt (hfree b' L' h1 h2).2)
      have sb := sd.dust (k := w1.heap.size) (.mapIter (some L.cb) clock (sa.push e'.born) clock) (Nat.le_refl _)
      have hLlt : L.cb < w1.heap.size := (r1.lt b L hL).2
      have mpb : (setBlock wd w1.heap.size (.mapIter (some L.cb) clock (sa.push e'.born) clock)).heap[L.cb]? = some (.map ents clock) := by
        rw [QC _ _ (Nat.ne_of_lt hLlt), hwh]; exact s.mp
      have itb : (setBlock wd w1.heap.size (.mapIter (some L.cb) clock (sa.push e'.born) clock)).heap[w1.heap.size]? = some (.mapIter (some L.cb) clock (sa.push e'.born) clock) := setBlock_at _ _ (by rw [hwh]; exact hsz)
      generalize setBlock wd w1.heap.size (.mapIter (some L.cb) clock (sa.push e'.born) clock) = wb at hr rb sb mpb itb
      have st0 : St P B N (up ι H.n ⟨w1.heap.size, 0, 0, 0⟩) T (RC.heap H b) a wb := ⟨rb, s.st.tmps, s.st.defers, s.st.cl, s.st.ad⟩
      refine ZV (o := c.o10) rfl ok.p10.2.1 (v := .tuple #[.bool true, e'.key, e'.val]) (w' := wb) (by rw [execOp, ok.p10.1]; simp only [hit, Sem.run_bind, Sem.run_map, hr]; rfl) ?_
      rw [wpOps_cons]
      rw [ok.p10.2.2]
      have st1 := st0.next (v := .chan none) (v' := .tuple #[.bool true, e'.key, e'.val]) (dst := some c.tn) (.unk _) st0.rel (Stp.refl _ _ _ st0.rel.dom) (by simp [UY, ok.lt]) (OkV.still st0.cl .unk)
      have htn : (a.put (some c.tn) (.tuple #[.bool true, e'.key, e'.val])).eval (.tmp c.tn) = .tuple #[.bool true, e'.key, e'.val] := by
        have : c.tn < a.tmps.size := Nat.lt_of_lt_of_le ok.lt.2.1 s.st.tmps.1
        simp [Act.put, Act.eval, this]
      refine ZV (o := c.o11) rfl ok.p11.2.1 (v := .bool true) (w' := wb) (by rw [execOp, ok.p11.1]; simp only [htn, Sem.run_bind, Sem.run_map, extract_run (show (#[Value.bool true, e'.key, e'.val] : Array Value)[0]? = some (.bool true) from rfl)]; rfl) ?_
      rw [ok.p11.2.2]
      have st2 := st1.next (v := .bool true) (v' := .bool true) (dst := some c.tb) (.bool _) st1.rel (Stp.refl _ _ _ st1.rel.dom) (by simp [UY, ok.lt]) (OkV.still st1.cl (AD.of_gr (k := 1) rfl))
      show Exit.then _ _ .normal _ wb
      refine wp_seq (wp_cond_true ?_ (wp_skip ?_))
      · have h := st2.tmps.ev (.tmp c.tb)
        generalize hq : Act.eval _ _ = q at h
        simp only [ev, put, Vq, if_true] at h
        cases h; rfl
      show (Code.block c.idC _).wp P _ _ wb
      refine wp_block (wp_seq (wp_region ?_))
      have hit2 : Act.eval ((a.put (some c.tn) (.tuple #[.bool true, e'.key, e'.val])).put (some c.tb) (.bool true)) (.tmp c.it) = .pointer (some ⟨w1.heap.size, 0, none⟩) := by
        have h := st2.tmps.ev (.tmp c.it)
        rw [show ev (put (put T (some c.tn) (.chan none)) (some c.tb) (.bool true)) (.tmp c.it) = get T c.it by simp [ev, put, Vq, ok.ne.1, ok.ne.2], R.iter seen T s.inv] at h
        generalize hq : Act.eval _ _ = q at h
        cases h with
        | ptr h => rw [up_eq] at h; cases h; rfl
      obtain ⟨T5, H5, x, T6, k1, k2, k3, k4⟩ := R.round seen T p s.inv hp (hpk ▸ hke)
      unfold RC.envN at k1
      generalize hT2 : put (put T (some c.tn) (.chan none)) (some c.tb) (.bool true) = T2 at st2 k1
      generalize (a.put (some c.tn) (.tuple #[.bool true, e'.key, e'.val])).put (some c.tb) (.bool true) = a2 at st2 hit2
      have hsz2 : 0 < c.ops2.size := by
        rcases Nat.lt_or_ge 0 c.ops2.size with h | h
        · exact h
        · have := ok.s2; rw [Array.getElem?_eq_none h] at this; cases this
      rw [show List.range c.ops2.size = 0 :: List.range' 1 (c.ops2.size - 1) by rw [List.range_eq_range', show c.ops2.size = (c.ops2.size - 1) + 1 by omega, List.range'_succ]; simp]
      rw [wpOps_cons]
      refine ZV (o := c.o20) ok.s2 ok.p20.2.1 (v := .tuple #[e'.key, e'.val]) (w' := wb) (by rw [execOp, ok.p20.1]; simp only [hit2, Sem.run_bind, Sem.run_map, run_entry_at wb w1.heap.size L.cb clock sa ents clock e' itb mpb hml.1 hmr.born]; rfl) ?_
      rw [ok.p20.2.2]
      have hv2 : RV (up ι H.n ⟨w1.heap.size, 0, 0, 0⟩) (.tuple #[p.1, p.2]) (.tuple #[e'.key, e'.val]) := (RVs.cons (hpk ▸ Wc (R.keys p hp)) (.cons (hv'.mono hup) .nil)).tup
      have ha2 : AD (RC.heap H b).n (.tuple #[p.1, p.2]) := .tup fun v hv => by
        simp at hv
        rcases hv with rfl | rfl
        · exact AD.of_gr (R.keys p hp)
        · exact (hcl.maps b es R.map p hp).mono (by rw [RC.heap_n]; omega)
      have st3 := st2.next (dst := some c.te) hv2 st2.rel (Stp.refl _ _ _ st2.rel.dom) (by simp [UY, ok.lt]) (OkV.still st2.cl ha2)
      refine ops_sound hc hca 1 _ rfl st3 k1 ?_
      intro ι3 a3 w3 st4 hs4
      show (W8 c.rest).wp P _ a3 w3
      refine Vj hc hca hm c.rest hg _ _ _ _ _ _ _ _ _ _ st4 k2 ?_
      intro ι4 a4 w4 st5 hs5
      have hss := hs4.trans hs5
      have hι : ι4 = up ι H.n ⟨w1.heap.size, 0, 0, 0⟩ := (low_eq st5.rel.dom fun _ _ => rfl).symm.trans (low_eq st2.rel.dom hss.ext)
      subst hι
      have key : Code.rounds P (.seq (.region c.i1 c.ops1 false) (.seq (.cond (.tmp c.tb) .skip (.exit c.idB)) (.block c.idC (.seq (.region c.i2 c.ops2 false) (W8 c.rest))))) (Exit.inBlock c.idB Q) m a4 w4 := by
        refine ih (p.1 :: seen) (clr c.keepL T6) a4 w4 (sa.push e'.born) clock ⟨st5.clr _, sb.trans hss, ?_, ?_, Nat.le_refl _, fun e he => ?_, k4⟩ ?_
        · have hcb : L.cb < wb.heap.size := (Array.getElem?_eq_some_iff.1 mpb).1
          rw [hss.fr L.cb hcb fun b' L' h1 h2 => (hfree b' L' h1 (W7 h2)).1]; exact mpb
        · have hcb : w1.heap.size < wb.heap.size := (Array.getElem?_eq_some_iff.1 itb).1
          rw [hss.fr _ hcb fun b' L' h1 h2 => Nat.ne_of_lt (hfree b' L' h1 (W7 h2)).2]; exact itb
        · rw [contains_push, Bool.or_eq_true, s.sn e he, List.mem_cons]
          constructor
          · rintro (h | h)
            · exact .inr h
            · exact .inl ((born_inj hmr.born he hml.1 (by simpa using h)) ▸ hpk.symm)
          · rintro (h | h)
            · exact .inr (by rw [nodup_inj (·.key) _ hmr.ckeys e he e' hml.1 (h.trans hpk)]; simp)
            · exact .inl h
        · have := left_shrinks ents sa e' he
          omega
      rw [ok.s1] at key
      rcases k3 with rfl | rfl
      · exact key
      · show Exit.inBlock c.idC _ (.exit c.idC) a4 w4
        simp only [Exit.inBlock, if_true]
        exact key
theorem RC.ok {N : Nat} {call : Yc} (hc : Wo P call) (hca : XC call) (hm : P.follows .mixedOrders = true) {c : RC} (ok : c.Ok P N) (hg : Ql P N c.rest) : Z3 P N c.code (c.sem P N call) := by
  intro B ι T H a w x T' H' Q s h hQ
  obtain ⟨rfl, rfl, v, b, es, I, R⟩ := RC.sem_some h
  refine wp_seq (wp_region ?_)
  rw [ok.s0]
  show wpOps P #[c.o00, c.o01] _ [0, 1] a w
  rw [wpOps_cons]
  have hs0 : c.ops0[0]? = some c.o00 := by rw [ok.s0]; rfl
  have R0 := R.start
  rw [ok.s0] at R0
  refine QM hc (o := c.o00) (ops := #[c.o00, c.o01]) rfl s.rel s.tmps (fun _ => ⟨s.cl, s.ad⟩) R0 ?_
  intro ι1 v' w1 hv r1 hs1 hd
  have st1 := s.next hv r1 hs1 hd (step_ad hca s.cl s.ad R0)
  rw [wpOps_cons]
  have hmv := st1.tmps.ev (.tmp c.mv)
  rw [show ev (put T c.o00.dst v) (.tmp c.mv) = get (put T c.o00.dst v) c.mv from rfl, R.at_] at hmv
  generalize a.put c.o00.dst v' = a1 at st1 hmv
  obtain ⟨L, hL, hev⟩ : ∃ L, ι1 b = some L ∧ a1.eval (.tmp c.mv) = .map (some L.cb) := by
    generalize a1.eval (.tmp c.mv) = q at hmv
    cases hmv with
    | map h => exact ⟨_, h, rfl⟩
  obtain ⟨tk, te, hty⟩ := ok.ty
  have hbk := r1.blk b L hL
  rw [R.map] at hbk
  obtain ⟨hB, ents, clock, hmp, hmr⟩ := hbk
  have hbn : b < H'.n := r1.dom b L hL
  refine ZV (o := c.o01) rfl ok.p01.2.1 (v := .pointer (some ⟨w1.heap.size, 0, none⟩)) (w' := w1.alloc (.mapIter (some L.cb) clock #[] clock)) (by rw [execOp, ok.p01.1]; simp only [hev, Sem.run_bind, Sem.run_map, run_range_map w1 c.ty tk te L.cb ents clock hty hmp]; rfl) ?_
  rw [ok.p01.2.2]
  obtain ⟨q1, q2⟩ := r1.push (.mapIter (some L.cb) clock #[] clock) .dead ⟨w1.heap.size, 0, 0, 0⟩ rfl trivial
  obtain ⟨q3, q4⟩ := q1.kill b
  have hup : ∀ b' L', ι1 b' = some L' → up ι1 H'.n ⟨w1.heap.size, 0, 0, 0⟩ b' = some L' := fun b' L' h => by rw [up_ne (Nat.ne_of_lt (r1.dom b' L' h))]; exact h
  have hcl1 : Cl (RC.heap H' b) := (s.cl.push (k := .dead) (fun _ _ _ h => by cases h) (fun _ h => by cases h)).kill b
  have st2 : St P B N (up ι1 H'.n ⟨w1.heap.size, 0, 0, 0⟩) (put (put T c.o00.dst v) (some c.it) (.pointer (some ⟨H'.n, 0, none⟩))) (RC.heap H' b) (a1.put (some c.it) (.pointer (some ⟨w1.heap.size, 0, none⟩))) (w1.alloc (.mapIter (some L.cb) clock #[] clock)) :=
    ⟨q3, (st1.tmps.mono hup).put (by simp [UY, ok.lt]) (.ptr (o := 0) (L := ⟨w1.heap.size, 0, 0, 0⟩) up_eq), st1.defers, hcl1, (st1.ad.mono (by rw [RC.heap_n]; omega)).put _ (.ptr (by rw [RC.heap_n]; omega))⟩
  show (Code.block c.idB _).wp P Q _ _
  refine wp_block (wp_loop_rounds (ents.size + 1) ?_)
  refine range_rounds hc hca hm ok hg R r1 s.cl s.ad hL hmr ?_ (ents.size + 1) [] _ _ _ #[] clock ⟨st2.clr c.keepL, q2.trans q4, ?_, ?_, Nat.le_refl _, ?_, R.init⟩ ?_
  · intro a' w' st hs
    exact hQ ι1 a' w' st (hs1.trans hs)
  · rw [push_heap_old _ _ (r1.lt b L hL).2]; exact hmp
  · exact push_heap _ _
  · intro e he; simp
  · unfold leftOf
    exact Nat.lt_succ_of_le (Array.size_filter_le ..)
end Go.Proofs.YtmiinbhnfojnbaaDoor.Eng

namespace Go.Proofs.YtmiinbhnfojnbaaDoor.Eng
open Go
variable {P : Program} {B : Nat} {ι : Emb} {H : AHeap} {w : World}
def nodeOf (id : Nat) : DCode → Option DCode
  | .seq a b => match a, b with
    | .region i ops d, .block kp j b' => if j = id then some (.seq (.region i ops d) (.block kp j b')) else nodeOf id b'
    | a, b => (nodeOf id a).or (nodeOf id b)
  | .cond _ _ x y => (nodeOf id x).or (nodeOf id y)
  | .block _ _ b => nodeOf id b
  | .loop _ b => nodeOf id b
  | _ => none
def rcOf (rest : DCode → XCode) (ty : TypeId) (mv it tn te : Nat) : Option DCode → RC
  | some (.seq (.region i0 ops0 _) (.block kB idB (.loop kL (.seq (.region i1 ops1 _) (.seq (.cond _ (.tmp tb) _ _) (.block _ idC (.seq (.region i2 ops2 _) r))))))) =>
    ⟨i0, ops0, idB, i1, ops1, tb, idC, i2, ops2, rest r, kL, kB, mv, it, tn, te, ty, ops0.getD 0 default, ops0.getD 1 default, ops1.getD 0 default, ops1.getD 1 default, ops2.getD 0 default⟩
  | _ => ⟨0, #[], 0, 0, #[], 0, 0, 0, #[], .base .skip, [], [], 0, 0, 0, 0, 0, default, default, default, default, default⟩
abbrev Sems := Nat → Option (List Nat × (Env → AHeap → VC))
def atOf (S : Sems) : DCode → Option (Env → AHeap → VC)
  | .seq (.region _ _ _) (.block _ id _) => (S id).map fun p => fun T H => p.2 (clr p.1 T) H
  | _ => none
def opqs : XCode → List (Code × (Env → AHeap → VC))
  | .base _ => []
  | .opq c s => [(c, s)]
  | .seq a b => opqs a ++ opqs b
  | .cond _ _ x y => opqs x ++ opqs y
  | .block _ _ b => opqs b
  | .loop _ b => opqs b
theorem Qh {N : Nat} : ∀ (x : XCode), (∀ p ∈ opqs x, Z3 P N p.1 p.2 ∧ Zk p.2) → Ql P N x
  | .base _, _ => trivial
  | .opq c s, h => h (c, s) (by simp [opqs])
  | .seq a b, h => ⟨Qh a fun p hp => h p (by simp [opqs, hp]), Qh b fun p hp => h p (by simp [opqs, hp])⟩
  | .cond _ _ a b, h => ⟨Qh a fun p hp => h p (by simp [opqs, hp]), Qh b fun p hp => h p (by simp [opqs, hp])⟩
  | .block _ _ b, h => Qh b h
  | .loop _ b, h => Qh b h
theorem opq_ok {N : Nat} {call : Yc} (hc : Wo P call) (hca : XC call) (hm : P.follows .mixedOrders = true) {c : RC} (ok : c.Ok P N) (hg : Ql P N c.rest) (keep : List Nat) :
    Z3 P N c.code (fun T H => c.sem P N call (clr keep T) H) ∧ Zk fun T H => c.sem P N call (clr keep T) H :=
  ⟨fun B ι T H a w x T' H' Q s h hQ => RC.ok hc hca hm ok hg B ι (clr keep T) H a w x T' H' Q (s.clr keep) h hQ, fun T H x T' H' h hl ha => c.ad (clr keep T) H x T' H' h hl (ha.clr keep)⟩
def Wf (M : CombL) (P : Program) (N : Nat) (call : Yc) (LP : Yv) : XCode → Env → AHeap → K → Res
  | .base c, T, H, k => Vm M P N call LP c T H k
  | .opq _ sem, T, H, k => (sem T H).bind fun r => k r.1 r.2.1 r.2.2
  | .seq a b, T, H, k => Wf M P N call LP a T H (Ys (fun T' H' => Wf M P N call LP b T' H' k) k)
  | .cond keep c x y, T, H, k => M.c (ev T c) (fun k => Wf M P N call LP x T H (Yl keep k)) (fun k => Wf M P N call LP y T H (Yl keep k)) k
  | .block keep id b, T, H, k => M.s (fun k => Wf M P N call LP b T H (YI keep id k)) k
  | .loop keep b, T, H, k => LP (Wf M P N call LP b) keep (clr keep T) H k
theorem WS {N : Nat} {call : Yc} : ∀ (c : XCode), Wf Yd P N call Yo c = W5 P N call c
  | .base c => rfl
  | .opq _ _ => rfl
  | .seq a b => by funext T H k; rw [Wf, W5, WS a, WS b]
  | .cond keep c x y => by funext T H k; rw [Wf, W5, WS x, WS y]; rfl
  | .block keep id b => by funext T H k; rw [Wf, W5, WS b]; rfl
  | .loop keep b => by funext T H k; rw [Wf, W5, WS b]
def xLoops : XCode → List (List Nat × XCode)
  | .seq a b => xLoops a ++ xLoops b
  | .cond _ _ a b => xLoops a ++ xLoops b
  | .block _ _ b => xLoops b
  | .loop keep b => (keep, b) :: xLoops b
  | _ => []
def Gj (x : XCode) (i : Nat) : List Nat × XCode := (xLoops x).getD i ([], .base .skip)
def Vy (M : CombL) (P : Program) (N : Nat) (call : Yc) (LP : Yv) (x : XCode) (i : Nat) : Env → AHeap → K → Res := LP (Wf M P N call LP (Gj x i).2) (Gj x i).1
theorem xLoopL_next {N : Nat} {call : Yc} {x : XCode} {i : Nat} {keep : List Nat} (hk : (Gj x i).1 = keep) {T : Env} (hT : clr keep T = T) (H : AHeap) (k : K) :
    Vy Yd P N call Yo x i T H k = Wf Yd P N call Yo (Gj x i).2 T H (Yl keep (Ys (fun T H => Vy Yd P N call Yo x i T H k) k)) := by
  subst hk
  unfold Vy
  rw [WS]
  exact limLP_roundX _ _ hT H k
open Classical in
noncomputable def isK (x : DExit) (T' : Env) (H' : AHeap) : K := fun y T H => if y = x ∧ T = T' ∧ H = H' then some (.bool true, H) else none
theorem isK_hit (x : DExit) (T : Env) (H : AHeap) : isK x T H x T H = some (.bool true, H) := by unfold isK; rw [if_pos ⟨rfl, rfl, rfl⟩]
theorem round_of {N : Nat} {call : Yc} {c : RC} {x : DExit} {T T3 : Env} {H' : AHeap}
    (h : dOpsK std P N call c.ops2 (c.ops2.toList.drop 1) T H (fun T H => Wf Yd P N call Yo c.rest T H (isK x T3 H')) = some (.bool true, H')) :
    ∃ T2 H2, ZS P N call c.ops2 (c.ops2.toList.drop 1) T H = some (T2, H2) ∧ XJ P N call c.rest T2 H2 = some (x, T3, H') := by
  rw [dOpsK_eq] at h
  obtain ⟨⟨T2, H2⟩, h1, h2⟩ := Option.bind_eq_some_iff.1 h
  refine ⟨T2, H2, h1, ?_⟩
  rw [WS, Vc] at h2
  obtain ⟨⟨y, T4, H4⟩, h3, h4⟩ := Option.bind_eq_some_iff.1 h2
  simp only [isK] at h4
  split at h4
  · rename_i hh
    obtain ⟨rfl, rfl, rfl⟩ := hh
    exact h3
  · cases h4
def xOf (P : Program) (hints : WE) (f : FuncId) (S : Sems) : XCode := toX (atOf S) (codeOf P hints f)
theorem xPrim_of {call : Yc} {hints : WE} {f : FuncId} {S : Sems} {fn : Func} (hf : P.funcs[f]? = some fn) {args : List Value} {H : AHeap} {r : Value × AHeap}
    (h : Wf Yd P (Xn P f) call Yo (xOf P hints f S) (Ur 0 args) H (Yi P fn.results.toList) = some r) : xPrim P call fn (xOf P hints f S) args H = some (tidy H r) := by
  unfold xPrim xBody
  rw [WS] at h
  rw [show Xn P f = fn.ntmps by unfold Xn; rw [hf]] at h
  rw [h]
  rfl
theorem xOf_erase {hints : WE} {f : FuncId} {S : Sems} {fn : Func} {c : Code} (hf : P.funcs[f]? = some fn) (hb : fn.body = some c) : W8 (xOf P hints f S) = c := by
  unfold xOf
  rw [Uo]
  unfold codeOf
  rw [hf]
  simp only [hb]
  exact VI _ _
end Go.Proofs.YtmiinbhnfojnbaaDoor.Eng
