/-
  The engine, part 24: more numbers: shifts, quotients, conversions.
  Conditions: none. By an AI agent.
-/
import Derived.Test.YtlagijfkkpbbnaaEng23
namespace Go.Proofs.Ytlagijfkkpbbnaa.Eng
open Go

variable {P : Program} {H : AHeap}

theorem xbin_gr {op : BinOp} {t : TypeId} {ox oy : Operand} {q q' : IntKind} {a b : Int} {v : Value} (h : pv P (do eqGuard op t ox oy (.int q a) (.int q' b); binOp op t (.int q a) (.int q' b)) = some v) (hg : gr 9 v = true) :
    xbin P op t ox oy (.int q a) (.int q' b) = some v := by
  have e : xbin P op t ox oy (.int q a) (.int q' b) = pvg P (do eqGuard op t ox oy (.int q a) (.int q' b); binOp op t (.int q a) (.int q' b)) := rfl
  rw [e, pvg_some h hg]

@[go_sem] theorem shr_lit {t : TypeId} {ox oy : Operand} {q q' : IntKind} {a b : Int} (h : 0 ≤ b ∧ b < 8) : xbin P .shr t ox oy (.int q a) (.int q' b) = some (.int q (a / 2 ^ b.toNat)) := by
  refine xbin_gr ?_ rfl
  have hb : ¬ b < 0 := by omega
  have hm : min b.toNat q.bits = b.toNat := by cases q <;> simp [IntKind.bits] <;> omega
  simp [eqGuard, binOp, Op.shift, Bind.bind, Sem.bind, Pure.pure, pv, hb, hm]
  rw [Int.fdiv_eq_ediv_of_nonneg]
  exact Int.pow_nonneg (by decide)

theorem wrap_u64 {n : Int} (h1 : 0 ≤ n ∧ n < 18446744073709551616) : IntKind.wrap .u64 n = n := by
  unfold IntKind.wrap
  simp only [IntKind.bits, IntKind.signed, Bool.false_and]
  simp
  omega
theorem wrap_u32 {n : Int} (h1 : 0 ≤ n ∧ n < 4294967296) : IntKind.wrap .u32 n = n := by
  unfold IntKind.wrap
  simp only [IntKind.bits, IntKind.signed, Bool.false_and]
  simp
  omega
theorem wrap_u8 {n : Int} (h1 : 0 ≤ n ∧ n < 256) : IntKind.wrap .u8 n = n := by
  unfold IntKind.wrap
  simp only [IntKind.bits, IntKind.signed, Bool.false_and]
  simp
  omega
attribute [go_sem] wrap_i64 wrap_u64 wrap_u32 wrap_u8

end Go.Proofs.Ytlagijfkkpbbnaa.Eng
