/-
  The engine, part 18: laws of single operations and of the combinators, for reckoning with symbols.
  Conditions: none. By an AI agent.
-/
import Derived.Test.YtlagijfkkpbbnaaEng17
namespace Go.Proofs.Ytlagijfkkpbbnaa.Eng
open Go

variable {P : Program} {H H' : AHeap} {k : Value → AHeap → Res} {kk : K}

theorem bareK_some {v : Value} : bareK (some v) H k = k v H := rfl
theorem bothK_some {v : Value} : bothK (some (v, H)) k = k v H := rfl
theorem quietK_some : quietK (some H) k = k undef H := rfl
theorem checkK_true {r : Res} : checkK true r = r := rfl
theorem pickK_true {a b : Value} {k : Value → Res} : pickK (.bool true) a b k = k a := rfl
theorem pickK_false {a b : Value} {k : Value → Res} : pickK (.bool false) a b k = k b := rfl
theorem std_c_true {x y : K → Res} {keep : List Nat} : std.c (.bool true) x y keep kk = x (afterK keep kk) := rfl
theorem std_c_false {x y : K → Res} {keep : List Nat} : std.c (.bool false) x y keep kk = y (afterK keep kk) := rfl
theorem std_g_true {op : (Value → AHeap → Res) → Res} : std.g (.bool true) true op H k = op k := rfl
theorem std_g_false {op : (Value → AHeap → Res) → Res} : std.g (.bool false) false op H k = op k := rfl
theorem std_g_not {op : (Value → AHeap → Res) → Res} : std.g (.bool true) false op H k = k undef H := rfl
theorem std_g_not' {op : (Value → AHeap → Res) → Res} : std.g (.bool false) true op H k = k undef H := rfl
theorem std_g_undef {op : (Value → AHeap → Res) → Res} {b : Bool} : std.g undef b op H k = k undef H := rfl
theorem afterK_normal {keep : List Nat} {T : Env} : afterK keep kk .normal T H = kk .normal (clr keep T) H := rfl
theorem afterK_exit {keep : List Nat} {T : Env} {i : Nat} : afterK keep kk (.exit i) T H = kk (.exit i) T H := rfl
theorem afterK_ret {keep : List Nat} {T : Env} : afterK keep kk .ret T H = kk .ret T H := rfl
theorem seqK_normal {f : Env → AHeap → Res} {T : Env} : seqK f kk .normal T H = f T H := rfl
theorem seqK_exit {f : Env → AHeap → Res} {T : Env} {i : Nat} : seqK f kk (.exit i) T H = kk (.exit i) T H := rfl
theorem seqK_ret {f : Env → AHeap → Res} {T : Env} : seqK f kk .ret T H = kk .ret T H := rfl
theorem nextK_val {call : CallF} {H0 : AHeap} {v : Value} : nextK call H0 (some (.val v H)) k = k v H := rfl
theorem enterK_some {call : CallF} {g : FuncId} {args : List Value} {v : Value} (h : call g args H = some (v, H')) : enterK call g args H k = k v H' := by simp [enterK, h]

/-! Numbers -/
theorem xbin_add {t : TypeId} {ox oy : Operand} {q : IntKind} {a b : Int} : xbin P .add t ox oy (.int q a) (.int q b) = some (.int q (q.wrap (a + b))) := by
  simp [xbin, gr, pvg, pv, eqGuard, binOp, Op.intArith, Bind.bind, Sem.bind, Pure.pure]
theorem xbin_sub {t : TypeId} {ox oy : Operand} {q : IntKind} {a b : Int} : xbin P .sub t ox oy (.int q a) (.int q b) = some (.int q (q.wrap (a - b))) := by
  simp [xbin, gr, pvg, pv, eqGuard, binOp, Op.intArith, Bind.bind, Sem.bind, Pure.pure]
theorem xbin_mul {t : TypeId} {ox oy : Operand} {q : IntKind} {a b : Int} : xbin P .mul t ox oy (.int q a) (.int q b) = some (.int q (q.wrap (a * b))) := by
  simp [xbin, gr, pvg, pv, eqGuard, binOp, Op.intArith, Bind.bind, Sem.bind, Pure.pure]
theorem xbin_eql {t : TypeId} {ox oy : Operand} {q : IntKind} {a b : Int} : xbin P .eql t ox oy (.int q a) (.int q b) = some (.bool (a == b)) := by
  simp [xbin, gr, pvg, pv, eqGuard, binOp, Op.intCmp, Bind.bind, Sem.bind, Pure.pure]
theorem xbin_neq {t : TypeId} {ox oy : Operand} {q : IntKind} {a b : Int} : xbin P .neq t ox oy (.int q a) (.int q b) = some (.bool (a != b)) := by
  simp [xbin, gr, pvg, pv, eqGuard, binOp, Op.intCmp, Bind.bind, Sem.bind, Pure.pure]
theorem xbin_lss {t : TypeId} {ox oy : Operand} {q : IntKind} {a b : Int} : xbin P .lss t ox oy (.int q a) (.int q b) = some (.bool (decide (a < b))) := by
  simp [xbin, gr, pvg, pv, eqGuard, binOp, Op.intCmp, Bind.bind, Sem.bind, Pure.pure]
theorem xbin_leq {t : TypeId} {ox oy : Operand} {q : IntKind} {a b : Int} : xbin P .leq t ox oy (.int q a) (.int q b) = some (.bool (decide (a ≤ b))) := by
  simp [xbin, gr, pvg, pv, eqGuard, binOp, Op.intCmp, Bind.bind, Sem.bind, Pure.pure]
theorem xbin_gtr {t : TypeId} {ox oy : Operand} {q : IntKind} {a b : Int} : xbin P .gtr t ox oy (.int q a) (.int q b) = some (.bool (decide (a > b))) := by
  simp [xbin, gr, pvg, pv, eqGuard, binOp, Op.intCmp, Bind.bind, Sem.bind, Pure.pure]
theorem xbin_geq {t : TypeId} {ox oy : Operand} {q : IntKind} {a b : Int} : xbin P .geq t ox oy (.int q a) (.int q b) = some (.bool (decide (a ≥ b))) := by
  simp [xbin, gr, pvg, pv, eqGuard, binOp, Op.intCmp, Bind.bind, Sem.bind, Pure.pure]
theorem xun_not {b : Bool} : xun P .not (.bool b) = some (.bool !b) := rfl

theorem wrap64 {n : Int} (h1 : -9223372036854775808 ≤ n) (h2 : n < 9223372036854775808) : IntKind.wrap .i64 n = n := by
  unfold IntKind.wrap
  simp only [IntKind.bits, IntKind.signed, Bool.true_and]
  split <;> simp_all <;> omega

end Go.Proofs.Ytlagijfkkpbbnaa.Eng
