/-
  5 texts in one (merge.py): ShExpireNil DsExpireNil Nil NilB LawExpireNil.
  Conditions: none. By an AI agent.
-/
import Derived.Test.YthjjkinpbpealaaQc3
import Derived.Test.YthjjkinpbpealaaChecked
import Derived.KernelRfl
import Derived.Test.YthjjkinpbpealaaRows
import Derived.WalkKit
import Derived.ProofKit
import Derived.OpenShut
import Derived.ShutString
import Derived.ChangeOld
import Derived.Below
import Derived.SizedLaws
import Derived.ChangeArms
import Derived.Carry

/-
  The seat's functions as terms over the engine's combinators (a program of ours printed it).
  Conditions: none. By an AI agent.
-/
set_option linter.unusedVariables false
namespace Go.Proofs.Ythjjkinpbpealaa
open Go Eng

/-! ticketline.ticketlinelaw45.ExpireNil -/

noncomputable def s_law_ExpireNil (mg : GT) (mc : CT) (ms : ST) (P : Program) (C : CallF) (L0 : Value → Value → Value → AHeap → K → Res) (a0 : Value) (H : AHeap) (K0 : K) : Res :=
bothK (newv T.law_Act a0 H) fun t1 h1 =>
bareK (ldN 4 h1 t1) h1 fun t5 h2 =>
bothK (bldL T.law_Act [(.int .i64 0), (.string (mk [])), (.string (mk [])), (.int .i64 0)] 1 [(0, t5)] h2) fun t6 h3 =>
enterK C F.law_small [t6, (.int .i64 1)] h3 fun t7 h4 =>
bareK (xun P .not t7) h4 fun t8 h5 =>
mc t8 (fun k1 => enterK C F.law_known [] h5 fun t9 h6 =>
k1 .ret [(2, t9)] h6) (fun k1 =>
k1 .normal [(1, t1)] h5) (seqK (fun tT h7 =>
ms (fun k2 =>
L0 (get tT 1) (.pointer none) (.int .i64 0) h7 (blkK [1, 3] 0 k2)) (seqK (fun tT_1 h8 =>
bareK (fad 1 (get tT_1 1)) h8 fun t21 h9 =>
bareK (ld1 h9 t21) h9 fun t22 h10 =>
enterK C F.law_gets [(get tT_1 3), t22, (.string (mk [])), (.int .i64 0), (.int .i64 1)] h10 fun t23 h11 =>
mg t23 true (fun o3 => o3 (get tT_1 3) h11) h11 fun t25 h12 =>
mg t23 true (fun o4 => bareK (fad 3 (get tT_1 1)) h12 o4) h12 fun t26 h13 =>
mg t23 true (fun o5 => bareK (ld1 h13 t26) h13 o5) h13 fun t27 h14 =>
mg t23 true (fun o6 => enterK C F.law_sweeps [t25, t27, (.slice none 0 0), (.int .i64 1)] h14 o6) h14 fun t28 h15 =>
pickK t23 t28 (.bool false) fun t29 =>
mg t29 true (fun o7 => o7 (get tT_1 3) h15) h15 fun t31 h16 =>
mg t29 true (fun o8 => enterK C F.expire_Store_Now [t31] h16 o8) h16 fun t32 h17 =>
mg t29 true (fun o9 => bareK (xbin P .eql T.int (.tmp 32) (.const (.int .i64 0)) t32 (.int .i64 0)) h17 o9) h17 fun t33 h18 =>
pickK t29 t33 (.bool false) fun t34 =>
mg t34 true (fun o10 => o10 (get tT_1 3) h18) h18 fun t36 h19 =>
mg t34 true (fun o11 => enterK C F.expire_Store_Next [t36] h19 o11) h19 fun t37 h20 =>
mg t34 true (fun o12 => bareK (xbin P .eql T.int (.tmp 37) (.const (.int .i64 0)) t37 (.int .i64 0)) h20 o12) h20 fun t38 h21 =>
pickK t34 t38 (.bool false) fun t39 =>
mg t39 true (fun o13 => o13 (get tT_1 3) h21) h21 fun t41 h22 =>
mg t39 true (fun o14 => enterK C F.expire_Store_Len [t41] h22 o14) h22 fun t42 h23 =>
mg t39 true (fun o15 => bareK (xbin P .eql T.int (.tmp 42) (.const (.int .i64 0)) t42 (.int .i64 0)) h23 o15) h23 fun t43 h24 =>
pickK t39 t43 (.bool false) fun t44 =>
mg t44 true (fun o16 => o16 (get tT_1 3) h24) h24 fun t46 h25 =>
mg t44 true (fun o17 => enterK C F.expire_Store_Waiting [t46] h25 o17) h25 fun t47 h26 =>
mg t44 true (fun o18 => bareK (xbin P .eql T.int (.tmp 47) (.const (.int .i64 0)) t47 (.int .i64 0)) h26 o18) h26 fun t48 h27 =>
pickK t44 t48 (.bool false) fun t49 =>
mg t49 true (fun o19 => o19 (get tT_1 3) h27) h27 fun t51 h28 =>
mg t49 true (fun o20 => enterK C F.expire_Store_Alive [t51] h28 o20) h28 fun t52 h29 =>
mg t49 true (fun o21 => bareK (lenS t52) h29 o21) h29 fun t53 h30 =>
mg t49 true (fun o22 => bareK (xbin P .eql T.int (.tmp 53) (.const (.int .i64 0)) t53 (.int .i64 0)) h30 o22) h30 fun t54 h31 =>
pickK t49 t54 (.bool false) fun t55 =>
mg t55 true (fun o23 => o23 (get tT_1 3) h31) h31 fun t57 h32 =>
mg t55 true (fun o24 => enterK C F.expire_Store_Copy [t57] h32 o24) h32 fun t58 h33 =>
mg t55 true (fun o25 => bareK (xbin P .eql T.p_expire_Store (.tmp 58) (.const (.pointer none)) t58 (.pointer none)) h33 o25) h33 fun t59 h34 =>
pickK t55 t59 (.bool false) fun t60 =>
mg t60 true (fun o26 => enterK C F.law_known [] h34 o26) h34 fun t62 h35 =>
pickK t60 t62 (.bool false) fun t63 =>
K0 .ret [(2, t63)] h35) K0)) K0)

noncomputable def s_law_ExpireNil_b0 (mg : GT) (mc : CT) (ms : ST) (P : Program) (C : CallF) (L0 : Value → Value → Value → AHeap → K → Res) (v1 : Value) (v3 : Value) (v4 : Value) (H : AHeap) (k : K) : Res :=
bareK (xbin P .lss T.int (.tmp 10) (.const (.int .i64 4)) v4 (.int .i64 4)) H fun t11 h8 =>
mc t11 (fun k3 => k3 .normal [(1, v1), (3, v3), (4, v4)] h8) (fun k3 =>
k3 (.exit 0) [(11, t11), (10, v4), (1, v1), (3, v3), (4, v4)] h8) (seqK (fun tT h9 =>
ms (fun k4 =>
bareK (fad 0 (get tT 1)) h9 fun t15 h10 =>
quietK (st1 h10 t15 (get tT 4)) fun _ h11 =>
bareK (ldN 4 h11 (get tT 1)) h11 fun t17 h12 =>
enterK C F.law_calls [(get tT 3), t17] h12 fun t18 h13 =>
bareK (xbin P .neq T.api_Errno (.tmp 18) (.const (.int .i64 1)) t18 (.int .i64 1)) h13 fun t19 h14 =>
mc t19 (fun k5 => k5 .ret [(2, (.bool false))] h14) (fun k5 =>
k5 .normal [(1, (get tT 1)), (3, (get tT 3)), (4, (get tT 4))] h14) (blkK [1, 3, 4] 1 k4)) (seqK (fun tT_1 h15 =>
bareK (xbin P .add T.int (.tmp 12) (.const (.int .i64 1)) (get tT_1 4) (.int .i64 1)) h15 fun t13 h16 =>
k .normal [(1, (get tT_1 1)), (3, (get tT_1 3)), (4, t13)] h16) (afterK [1, 3, 4] k))) (afterK [1, 3, 4] k))

theorem s_law_ExpireNil_eq (M : CombL) (C : CallF) (LP : LoopH) (a0 : Value) (H : AHeap) : dBodyL M Try.prog hints C LP F.law_ExpireNil [a0] H = s_law_ExpireNil M.b.g M.c M.s Try.prog C (fun v1 v3 v4 H k => loopL M Try.prog hints C LP F.law_ExpireNil 0 [(1, v1), (3, v3), (4, v4)] H k) a0 H (endK Try.prog [.tmp 2]) := by kernel_rfl

theorem s_law_ExpireNil_b0_eq (M : CombL) (C : CallF) (LP : LoopH) (v1 : Value) (v3 : Value) (v4 : Value) (H : AHeap) (k : K) : bodyL M Try.prog hints C LP F.law_ExpireNil 0 [(1, v1), (3, v3), (4, v4)] H (afterK [1, 3, 4] k) = s_law_ExpireNil_b0 M.b.g M.c M.s Try.prog C (fun v1 v3 v4 H k => loopL M Try.prog hints C LP F.law_ExpireNil 0 [(1, v1), (3, v3), (4, v4)] H k) v1 v3 v4 H k := by kernel_rfl

end Go.Proofs.Ythjjkinpbpealaa

/-
  The equations of the seat's functions over calls in the limit (a program of ours printed it).
  Conditions: none. By an AI agent.
-/
set_option linter.unusedVariables false
namespace Go.Proofs.Ythjjkinpbpealaa
open Go Eng



noncomputable def l_law_ExpireNil_0 (v1 : Value) (v3 : Value) (v4 : Value) (H : AHeap) (k : K) : Res := loopL stdL Try.prog hints CC limLP F.law_ExpireNil 0 [(1, v1), (3, v3), (4, v4)] H k
theorem r_law_ExpireNil_0 (v1 : Value) (v3 : Value) (v4 : Value) (H : AHeap) (k : K) : l_law_ExpireNil_0 v1 v3 v4 H k = s_law_ExpireNil_b0 guardK condL shareL Try.prog CC l_law_ExpireNil_0 v1 v3 v4 H (seqK (fun T H => l_law_ExpireNil_0 (get T 1) (get T 3) (get T 4) H k) k) := ((loopL_next (by kernel_rfl) rfl H k).trans (s_law_ExpireNil_b0_eq stdL CC limLP v1 v3 v4 H _)).trans (by kernel_rfl)
theorem d_law_ExpireNil (a0 : Value) (H : AHeap) {r : Value × AHeap} (h : s_law_ExpireNil guardK condL shareL Try.prog CC l_law_ExpireNil_0 a0 H (endK Try.prog [.tmp 2]) = some r) : CC F.law_ExpireNil [a0] H = some (tidy H r) := D_body (by kernel_rfl) ((s_law_ExpireNil_eq stdL CC limLP a0 H).trans (Eq.trans (show s_law_ExpireNil stdL.b.g stdL.c stdL.s Try.prog CC (fun v1 v3 v4 H k => loopL stdL Try.prog hints CC limLP F.law_ExpireNil 0 [(1, v1), (3, v3), (4, v4)] H k) a0 H (endK Try.prog [.tmp 2]) = s_law_ExpireNil guardK condL shareL Try.prog CC l_law_ExpireNil_0 a0 H (endK Try.prog [.tmp 2]) by kernel_rfl) h))

end Go.Proofs.Ythjjkinpbpealaa

/-
  Chapter 45: the law ExpireNil runs to true.
  Conditions: none. By an AI agent.
-/
set_option maxRecDepth 10000
set_option linter.unusedSimpArgs false
set_option linter.unusedVariables false
namespace Go.Proofs.Ythjjkinpbpealaa
open Go Eng
theorem bareK_congr' {x y : Option Value} {H : AHeap} {k : Value → AHeap → Res} (h : x = y) : bareK x H k = bareK y H k := by rw [h]
theorem bothK_congr' {x y : Option (Value × AHeap)} {k : Value → AHeap → Res} (h : x = y) : bothK x k = bothK y k := by rw [h]
theorem quietK_congr' {x y : Option AHeap} {k : Value → AHeap → Res} (h : x = y) : quietK x k = quietK y k := by rw [h]
attribute [local congr] bareK_congr' bothK_congr' quietK_congr'

structure Act where
  what : Int
  key : ByteArray
  val : ByteArray
  n : Int
def EAct : Enc Act := ⟨4, fun a => [.int .i64 a.what, .string a.key, .string a.val, .int .i64 a.n], fun _ => rfl, by decide, fun _ => rfl⟩

theorem k_known (H : AHeap) : CC F.law_known [] H = some (.bool true, H) := D_prim (show prims1 F.law_known = some trueP by kernel_rfl) rfl
@[go_sem, go_sem ↓] theorem e_known {H : AHeap} {k : Value → AHeap → Res} : enterK CC F.law_known [] H k = k (.bool true) H := enterK_eq (k_known H)
@[go_sem] theorem sp_some {ox oy : Operand} {a : Addr} : xbin Try.prog .eql T.p_expire_Store ox oy (.pointer (some a)) (.pointer none) = some (.bool false) := by kernel_rfl
@[go_sem] theorem sp_none {ox oy : Operand} : xbin Try.prog .eql T.p_expire_Store ox oy (.pointer none) (.pointer none) = some (.bool true) := by kernel_rfl

/-! ### the nil store -/
theorem n_Put (k v : ByteArray) (n : Int) (H : AHeap) : CC F.expire_Store_Put [.pointer none, .string k, .string v, .int .i64 n] H = some (.int .i64 1, H) := by
  apply pure_of _ (d_expire_Store_Put _ _ _ _ H) rfl
  rotate_left 2
  · simp (disch := first | with_reducible rfl | assumption | omega | rfl | (simp only [go_sem]; first | done | omega)) only [go_sem, ↓reduceIte, reduceCtorEq, Nat.reduceEqDiff, Nat.reduceAdd, Nat.reduceSub, Nat.reduceMul, Nat.reduceDiv, Nat.reduceMod, Nat.reduceLeDiff, Nat.reduceLT, Nat.reduceBEq, Int.reduceEq, Int.reduceBEq, Int.reduceBNe, Int.reduceLT, Int.reduceLE, Int.reduceAdd, Int.reduceSub, Int.reduceNeg, Int.reduceToNat, Int.reducePow, Nat.reducePow, Int.reduceMul, Int.reduceDiv, ↓s_expire_Store_Put]
    rfl
  · (repeat (first | exact Fr.refl _ | refine Fr.push ?_ _ | refine Fr.set ?_ _ _ (by intro h; first | omega | (simp only [go_sem] at h; omega))))
theorem n_Get (k : ByteArray) (H : AHeap) : CC F.expire_Store_Get [.pointer none, .string k] H = some (.tuple #[.string (mk []), .int .i64 0, .int .i64 1], H) := by
  apply pure_of _ (d_expire_Store_Get _ _ H) rfl
  rotate_left 2
  · simp (disch := first | with_reducible rfl | assumption | omega | rfl | (simp only [go_sem]; first | done | omega)) only [go_sem, ↓reduceIte, reduceCtorEq, Nat.reduceEqDiff, Nat.reduceAdd, Nat.reduceSub, Nat.reduceMul, Nat.reduceDiv, Nat.reduceMod, Nat.reduceLeDiff, Nat.reduceLT, Nat.reduceBEq, Int.reduceEq, Int.reduceBEq, Int.reduceBNe, Int.reduceLT, Int.reduceLE, Int.reduceAdd, Int.reduceSub, Int.reduceNeg, Int.reduceToNat, Int.reducePow, Nat.reducePow, Int.reduceMul, Int.reduceDiv, ↓s_expire_Store_Get]
    rfl
  · (repeat (first | exact Fr.refl _ | refine Fr.push ?_ _ | refine Fr.set ?_ _ _ (by intro h; first | omega | (simp only [go_sem] at h; omega))))
theorem n_Extend (k : ByteArray) (n : Int) (H : AHeap) : CC F.expire_Store_Extend [.pointer none, .string k, .int .i64 n] H = some (.int .i64 1, H) := by
  apply pure_of _ (d_expire_Store_Extend _ _ _ H) rfl
  rotate_left 2
  · simp (disch := first | with_reducible rfl | assumption | omega | rfl | (simp only [go_sem]; first | done | omega)) only [go_sem, ↓reduceIte, reduceCtorEq, Nat.reduceEqDiff, Nat.reduceAdd, Nat.reduceSub, Nat.reduceMul, Nat.reduceDiv, Nat.reduceMod, Nat.reduceLeDiff, Nat.reduceLT, Nat.reduceBEq, Int.reduceEq, Int.reduceBEq, Int.reduceBNe, Int.reduceLT, Int.reduceLE, Int.reduceAdd, Int.reduceSub, Int.reduceNeg, Int.reduceToNat, Int.reducePow, Nat.reducePow, Int.reduceMul, Int.reduceDiv, ↓s_expire_Store_Extend]
    rfl
  · (repeat (first | exact Fr.refl _ | refine Fr.push ?_ _ | refine Fr.set ?_ _ _ (by intro h; first | omega | (simp only [go_sem] at h; omega))))
theorem n_Delete (k : ByteArray) (H : AHeap) : CC F.expire_Store_Delete [.pointer none, .string k] H = some (.int .i64 1, H) := by
  have e := n_Get k H
  apply pure_of _ (d_expire_Store_Delete _ _ H) rfl
  rotate_left 2
  · simp (disch := first | with_reducible rfl | assumption | omega | rfl | (simp only [go_sem]; first | done | omega)) only [go_sem, ↓reduceIte, reduceCtorEq, Nat.reduceEqDiff, Nat.reduceAdd, Nat.reduceSub, Nat.reduceMul, Nat.reduceDiv, Nat.reduceMod, Nat.reduceLeDiff, Nat.reduceLT, Nat.reduceBEq, Int.reduceEq, Int.reduceBEq, Int.reduceBNe, Int.reduceLT, Int.reduceLE, Int.reduceAdd, Int.reduceSub, Int.reduceNeg, Int.reduceToNat, Int.reducePow, Nat.reducePow, Int.reduceMul, Int.reduceDiv, ↓s_expire_Store_Delete, ↓enterK_eq e, enterK_eq e]
    rfl
  · (repeat (first | exact Fr.refl _ | refine Fr.push ?_ _ | refine Fr.set ?_ _ _ (by intro h; first | omega | (simp only [go_sem] at h; omega))))
theorem n_Pass (n : Int) (H : AHeap) : CC F.expire_Store_Pass [.pointer none, .int .i64 n] H = some (.int .i64 1, H) := by
  apply pure_of _ (d_expire_Store_Pass _ _ H) rfl
  rotate_left 2
  · simp (disch := first | with_reducible rfl | assumption | omega | rfl | (simp only [go_sem]; first | done | omega)) only [go_sem, ↓reduceIte, reduceCtorEq, Nat.reduceEqDiff, Nat.reduceAdd, Nat.reduceSub, Nat.reduceMul, Nat.reduceDiv, Nat.reduceMod, Nat.reduceLeDiff, Nat.reduceLT, Nat.reduceBEq, Int.reduceEq, Int.reduceBEq, Int.reduceBNe, Int.reduceLT, Int.reduceLE, Int.reduceAdd, Int.reduceSub, Int.reduceNeg, Int.reduceToNat, Int.reducePow, Nat.reducePow, Int.reduceMul, Int.reduceDiv, ↓s_expire_Store_Pass]
    rfl
  · (repeat (first | exact Fr.refl _ | refine Fr.push ?_ _ | refine Fr.set ?_ _ _ (by intro h; first | omega | (simp only [go_sem] at h; omega))))
theorem n_Sweep (n : Int) (H : AHeap) : CC F.expire_Store_Sweep [.pointer none, .int .i64 n] H = some (.tuple #[.slice none 0 0, .int .i64 1], H) := by
  apply pure_of _ (d_expire_Store_Sweep _ _ H) rfl
  rotate_left 2
  · simp (disch := first | with_reducible rfl | assumption | omega | rfl | (simp only [go_sem]; first | done | omega)) only [go_sem, ↓reduceIte, reduceCtorEq, Nat.reduceEqDiff, Nat.reduceAdd, Nat.reduceSub, Nat.reduceMul, Nat.reduceDiv, Nat.reduceMod, Nat.reduceLeDiff, Nat.reduceLT, Nat.reduceBEq, Int.reduceEq, Int.reduceBEq, Int.reduceBNe, Int.reduceLT, Int.reduceLE, Int.reduceAdd, Int.reduceSub, Int.reduceNeg, Int.reduceToNat, Int.reducePow, Nat.reducePow, Int.reduceMul, Int.reduceDiv, ↓s_expire_Store_Sweep]
    rfl
  · (repeat (first | exact Fr.refl _ | refine Fr.push ?_ _ | refine Fr.set ?_ _ _ (by intro h; first | omega | (simp only [go_sem] at h; omega))))
theorem n_Now (H : AHeap) : CC F.expire_Store_Now [.pointer none] H = some (.int .i64 0, H) := by
  apply pure_of _ (d_expire_Store_Now _ H) rfl
  rotate_left 2
  · simp (disch := first | with_reducible rfl | assumption | omega | rfl | (simp only [go_sem]; first | done | omega)) only [go_sem, ↓reduceIte, reduceCtorEq, Nat.reduceEqDiff, Nat.reduceAdd, Nat.reduceSub, Nat.reduceMul, Nat.reduceDiv, Nat.reduceMod, Nat.reduceLeDiff, Nat.reduceLT, Nat.reduceBEq, Int.reduceEq, Int.reduceBEq, Int.reduceBNe, Int.reduceLT, Int.reduceLE, Int.reduceAdd, Int.reduceSub, Int.reduceNeg, Int.reduceToNat, Int.reducePow, Nat.reducePow, Int.reduceMul, Int.reduceDiv, ↓s_expire_Store_Now]
    rfl
  · (repeat (first | exact Fr.refl _ | refine Fr.push ?_ _ | refine Fr.set ?_ _ _ (by intro h; first | omega | (simp only [go_sem] at h; omega))))
theorem n_Len (H : AHeap) : CC F.expire_Store_Len [.pointer none] H = some (.int .i64 0, H) := by
  apply pure_of _ (d_expire_Store_Len _ H) rfl
  rotate_left 2
  · simp (disch := first | with_reducible rfl | assumption | omega | rfl | (simp only [go_sem]; first | done | omega)) only [go_sem, ↓reduceIte, reduceCtorEq, Nat.reduceEqDiff, Nat.reduceAdd, Nat.reduceSub, Nat.reduceMul, Nat.reduceDiv, Nat.reduceMod, Nat.reduceLeDiff, Nat.reduceLT, Nat.reduceBEq, Int.reduceEq, Int.reduceBEq, Int.reduceBNe, Int.reduceLT, Int.reduceLE, Int.reduceAdd, Int.reduceSub, Int.reduceNeg, Int.reduceToNat, Int.reducePow, Nat.reducePow, Int.reduceMul, Int.reduceDiv, ↓s_expire_Store_Len]
    rfl
  · (repeat (first | exact Fr.refl _ | refine Fr.push ?_ _ | refine Fr.set ?_ _ _ (by intro h; first | omega | (simp only [go_sem] at h; omega))))
theorem n_Waiting (H : AHeap) : CC F.expire_Store_Waiting [.pointer none] H = some (.int .i64 0, H) := by
  apply pure_of _ (d_expire_Store_Waiting _ H) rfl
  rotate_left 2
  · simp (disch := first | with_reducible rfl | assumption | omega | rfl | (simp only [go_sem]; first | done | omega)) only [go_sem, ↓reduceIte, reduceCtorEq, Nat.reduceEqDiff, Nat.reduceAdd, Nat.reduceSub, Nat.reduceMul, Nat.reduceDiv, Nat.reduceMod, Nat.reduceLeDiff, Nat.reduceLT, Nat.reduceBEq, Int.reduceEq, Int.reduceBEq, Int.reduceBNe, Int.reduceLT, Int.reduceLE, Int.reduceAdd, Int.reduceSub, Int.reduceNeg, Int.reduceToNat, Int.reducePow, Nat.reducePow, Int.reduceMul, Int.reduceDiv, ↓s_expire_Store_Waiting]
    rfl
  · (repeat (first | exact Fr.refl _ | refine Fr.push ?_ _ | refine Fr.set ?_ _ _ (by intro h; first | omega | (simp only [go_sem] at h; omega))))
theorem n_Alive (H : AHeap) : CC F.expire_Store_Alive [.pointer none] H = some (.slice none 0 0, H) := by
  apply pure_of _ (d_expire_Store_Alive _ H) rfl
  rotate_left 2
  · simp (disch := first | with_reducible rfl | assumption | omega | rfl | (simp only [go_sem]; first | done | omega)) only [go_sem, ↓reduceIte, reduceCtorEq, Nat.reduceEqDiff, Nat.reduceAdd, Nat.reduceSub, Nat.reduceMul, Nat.reduceDiv, Nat.reduceMod, Nat.reduceLeDiff, Nat.reduceLT, Nat.reduceBEq, Int.reduceEq, Int.reduceBEq, Int.reduceBNe, Int.reduceLT, Int.reduceLE, Int.reduceAdd, Int.reduceSub, Int.reduceNeg, Int.reduceToNat, Int.reducePow, Nat.reducePow, Int.reduceMul, Int.reduceDiv, ↓s_expire_Store_Alive]
    rfl
  · (repeat (first | exact Fr.refl _ | refine Fr.push ?_ _ | refine Fr.set ?_ _ _ (by intro h; first | omega | (simp only [go_sem] at h; omega))))
theorem n_Next (H : AHeap) : CC F.expire_Store_Next [.pointer none] H = some (.int .i64 0, H) := D_prim (show prims1 F.expire_Store_Next = some nextP by kernel_rfl) rfl
theorem n_Copy (H : AHeap) : CC F.expire_Store_Copy [.pointer none] H = some (.pointer none, H) := D_prim (show prims1 F.expire_Store_Copy = some copyP by kernel_rfl) rfl

theorem n_gets (k : ByteArray) (H : AHeap) : CC F.law_gets [.pointer none, .string k, .string (mk []), .int .i64 0, .int .i64 1] H = some (.bool true, H) := by
  have e := n_Get k H
  apply pure_of _ (d_law_gets _ _ _ _ _ H) rfl
  rotate_left 2
  · simp (disch := first | with_reducible rfl | assumption | omega | rfl | (simp only [go_sem]; first | done | omega)) only [go_sem, ↓reduceIte, reduceCtorEq, Nat.reduceEqDiff, Nat.reduceAdd, Nat.reduceSub, Nat.reduceMul, Nat.reduceDiv, Nat.reduceMod, Nat.reduceLeDiff, Nat.reduceLT, Nat.reduceBEq, Int.reduceEq, Int.reduceBEq, Int.reduceBNe, Int.reduceLT, Int.reduceLE, Int.reduceAdd, Int.reduceSub, Int.reduceNeg, Int.reduceToNat, Int.reducePow, Nat.reducePow, Int.reduceMul, Int.reduceDiv, ↓s_law_gets, ↓enterK_eq e, enterK_eq e]
    rfl
  · (repeat (first | exact Fr.refl _ | refine Fr.push ?_ _ | refine Fr.set ?_ _ _ (by intro h; first | omega | (simp only [go_sem] at h; omega))))
theorem n_sweeps (n : Int) (H : AHeap) : CC F.law_sweeps [.pointer none, .int .i64 n, .slice none 0 0, .int .i64 1] H = some (.bool true, H) := by
  have e := n_Sweep n H
  apply pure_of _ (d_law_sweeps _ _ _ _ H) rfl
  rotate_left 2
  · simp (disch := first | with_reducible rfl | assumption | omega | rfl | (simp only [go_sem]; first | done | omega)) only [go_sem, ↓reduceIte, reduceCtorEq, Nat.reduceEqDiff, Nat.reduceAdd, Nat.reduceSub, Nat.reduceMul, Nat.reduceDiv, Nat.reduceMod, Nat.reduceLeDiff, Nat.reduceLT, Nat.reduceBEq, Int.reduceEq, Int.reduceBEq, Int.reduceBNe, Int.reduceLT, Int.reduceLE, Int.reduceAdd, Int.reduceSub, Int.reduceNeg, Int.reduceToNat, Int.reducePow, Nat.reducePow, Int.reduceMul, Int.reduceDiv, ↓s_law_sweeps, ↓enterK_eq e, enterK_eq e, ↓r_law_sweeps_0, ↓s_law_sweeps_b0]
    rfl
  · (repeat (first | exact Fr.refl _ | refine Fr.push ?_ _ | refine Fr.set ?_ _ _ (by intro h; first | omega | (simp only [go_sem] at h; omega))))
theorem n_calls (a : Act) (H : AHeap) : CC F.law_calls [.pointer none, .agg ⟨EAct.enc a⟩] H = some (.int .i64 1, H) := by
  obtain ⟨H1, hH1⟩ : ∃ H1, H.push (.cells (EAct.enc a) T.law_Act true) = H1 := ⟨_, rfl⟩
  have f1 : H1.f H.n = .cells [.int .i64 a.what, .string a.key, .string a.val, .int .i64 a.n] T.law_Act true := by rw [← hH1]; exact push_f_eq rfl
  have nw : newv T.law_Act (.agg ⟨EAct.enc a⟩) H = some (.pointer (some ⟨H.n, 0, none⟩), H1) := by rw [← hH1]; rfl
  have e1 := n_Put a.key a.val a.n H1
  have e2 := n_Extend a.key a.n H1
  have e3 := n_Delete a.key H1
  have e4 := n_Pass a.n H1
  have st : Still H H1 := by rw [← hH1]; exact (Fr.refl H).push _
  refine (d_law_calls _ _ H (r := (.int .i64 1, H1)) ?_).trans (congrArg some (tidy_same rfl st))
  by_cases h0 : a.what = 0
  · simp (disch := first | with_reducible rfl | assumption | omega | rfl | (simp only [go_sem]; first | done | omega)) only [go_sem, ↓reduceIte, reduceCtorEq, Nat.reduceEqDiff, Nat.reduceAdd, Nat.reduceSub, Nat.reduceMul, Nat.reduceDiv, Nat.reduceMod, Nat.reduceLeDiff, Nat.reduceLT, Nat.reduceBEq, Int.reduceEq, Int.reduceBEq, Int.reduceBNe, Int.reduceLT, Int.reduceLE, Int.reduceAdd, Int.reduceSub, Int.reduceNeg, Int.reduceToNat, Int.reducePow, Nat.reducePow, Int.reduceMul, Int.reduceDiv, ↓s_law_calls, nw, f1, h0, ↓enterK_eq e1, enterK_eq e1]
  · by_cases h1 : a.what = 1
    · simp (disch := first | with_reducible rfl | assumption | omega | rfl | (simp only [go_sem]; first | done | omega)) only [go_sem, ↓reduceIte, reduceCtorEq, Nat.reduceEqDiff, Nat.reduceAdd, Nat.reduceSub, Nat.reduceMul, Nat.reduceDiv, Nat.reduceMod, Nat.reduceLeDiff, Nat.reduceLT, Nat.reduceBEq, Int.reduceEq, Int.reduceBEq, Int.reduceBNe, Int.reduceLT, Int.reduceLE, Int.reduceAdd, Int.reduceSub, Int.reduceNeg, Int.reduceToNat, Int.reducePow, Nat.reducePow, Int.reduceMul, Int.reduceDiv, ↓s_law_calls, nw, f1, h0, h1, ↓enterK_eq e2, enterK_eq e2]
    · by_cases h2 : a.what = 2
      · simp (disch := first | with_reducible rfl | assumption | omega | rfl | (simp only [go_sem]; first | done | omega)) only [go_sem, ↓reduceIte, reduceCtorEq, Nat.reduceEqDiff, Nat.reduceAdd, Nat.reduceSub, Nat.reduceMul, Nat.reduceDiv, Nat.reduceMod, Nat.reduceLeDiff, Nat.reduceLT, Nat.reduceBEq, Int.reduceEq, Int.reduceBEq, Int.reduceBNe, Int.reduceLT, Int.reduceLE, Int.reduceAdd, Int.reduceSub, Int.reduceNeg, Int.reduceToNat, Int.reducePow, Nat.reducePow, Int.reduceMul, Int.reduceDiv, ↓s_law_calls, nw, f1, h0, h1, h2, ↓enterK_eq e3, enterK_eq e3]
      · simp (disch := first | with_reducible rfl | assumption | omega | rfl | (simp only [go_sem]; first | done | omega)) only [go_sem, ↓reduceIte, reduceCtorEq, Nat.reduceEqDiff, Nat.reduceAdd, Nat.reduceSub, Nat.reduceMul, Nat.reduceDiv, Nat.reduceMod, Nat.reduceLeDiff, Nat.reduceLT, Nat.reduceBEq, Int.reduceEq, Int.reduceBEq, Int.reduceBNe, Int.reduceLT, Int.reduceLE, Int.reduceAdd, Int.reduceSub, Int.reduceNeg, Int.reduceToNat, Int.reducePow, Nat.reducePow, Int.reduceMul, Int.reduceDiv, ↓s_law_calls, nw, f1, h0, h1, h2, ↓enterK_eq e4, enterK_eq e4]

end Go.Proofs.Ythjjkinpbpealaa

/-
  Chapter 45: the law ExpireNil runs to true: the law itself.
  Conditions: none. By an AI agent.
-/
set_option maxRecDepth 10000
set_option linter.unusedSimpArgs false
set_option linter.unusedVariables false
namespace Go.Proofs.Ythjjkinpbpealaa
open Go Eng
attribute [local congr] bareK_congr' bothK_congr' quietK_congr'

theorem drop_act {l m : List Act} {a : Act} {i : Nat} (h : l.drop i = a :: m) : ∃ hi : i < l.length, l[i] = a ∧ l.drop (i + 1) = m := by
  have hi : i < l.length := by
    by_cases hi : i < l.length
    · exact hi
    · rw [List.drop_eq_nil_of_le (by omega)] at h; cases h
  rw [List.drop_eq_getElem_cons hi] at h
  cases h
  exact ⟨hi, rfl, rfl⟩

def okA (a : Act) : Bool := decide ((bl a.key).length ≤ 30) && decide ((bl a.val).length ≤ 44)
def smallB (l : List Act) (most : Nat) : Bool := (l.take most).all okA && decide (l.length ≤ most)

theorem l_small {v : Value} {l : List Act} {H : AHeap} (r : Rd EAct H v l) (most : Nat) (hl : l.length ≤ 4611686018427387904) (hm : most ≤ 1000) (K : K) : ∀ (m : List Act) (i : Nat), l.drop i = m → i ≤ l.length → i ≤ most →
    l_law_small_0 v (.int .i64 (most : Int)) (.int .i64 (i : Int)) H (blkK [0, 1] 0 K) = if (m.take (most - i)).all okA then K .normal [(0, v), (1, .int .i64 (most : Int))] H else K .ret [(4, .bool false)] H
  | [], i, hd, hi, hm' => by
    have h : l.length ≤ i := List.drop_eq_nil_iff.1 hd
    have hlt : ¬ (i : Int) < (l.length : Int) := by omega
    have hlen := r.lenS
    rw [r_law_small_0, List.take_nil, List.all_nil, if_pos rfl]
    simp (disch := first | with_reducible rfl | assumption | omega | rfl | (simp only [go_sem]; first | done | omega)) only [go_sem, ↓reduceIte, reduceCtorEq, Nat.reduceEqDiff, Nat.reduceAdd, Nat.reduceSub, Nat.reduceMul, Nat.reduceDiv, Nat.reduceMod, Nat.reduceLeDiff, Nat.reduceLT, Nat.reduceBEq, Int.reduceEq, Int.reduceBEq, Int.reduceBNe, Int.reduceLT, Int.reduceLE, Int.reduceAdd, Int.reduceSub, Int.reduceNeg, Int.reduceToNat, Int.reducePow, Nat.reducePow, Int.reduceMul, Int.reduceDiv, ↓s_law_small_b0, hlen, hlt]
  | a :: m, i, hd, hi, hm' => by
    obtain ⟨h, ha, hd'⟩ := drop_act hd
    have hlt : (i : Int) < (l.length : Int) := by omega
    have hlen := r.lenS
    obtain ⟨bb, o, ix, hbn, hc, hbl⟩ := r.ix (q := .i64) h
    have ix : ixS 4 v (.int .i64 i) = some (.pointer (some ⟨bb, o, none⟩)) := ix
    rw [ha] at hc
    have c1 : cellB (H.f bb) (o + 1) = some (.string a.key) := cutB_cell hc (i := 1) (by decide)
    have c2 : cellB (H.f bb) (o + 2) = some (.string a.val) := cutB_cell hc (i := 2) (by decide)
    rw [r_law_small_0]
    by_cases hmo : i < most
    · have hlt2 : (i : Int) < (most : Int) := by omega
      obtain ⟨d, hd2⟩ : ∃ d, most - i = d + 1 := ⟨most - i - 1, by omega⟩
      rw [hd2, List.take_succ_cons, List.all_cons]
      by_cases k1 : (bl a.key).length ≤ 30
      · have k1' : ¬ (30 : Int) < ((bl a.key).length : Int) := by omega
        by_cases k2 : (bl a.val).length ≤ 44
        · have k2' : ¬ (44 : Int) < ((bl a.val).length : Int) := by omega
          have ok : okA a = true := by unfold okA; simp [k1, k2]
          have ih := l_small r most hl hm K m (i + 1) hd' (by omega) (by omega)
          rw [show most - (i + 1) = d by omega, Int.natCast_add] at ih
          rw [ok, Bool.true_and]
          simp (disch := first | with_reducible rfl | assumption | omega | rfl | (simp only [go_sem]; first | done | omega)) only [go_sem, ↓reduceIte, reduceCtorEq, Nat.reduceEqDiff, Nat.reduceAdd, Nat.reduceSub, Nat.reduceMul, Nat.reduceDiv, Nat.reduceMod, Nat.reduceLeDiff, Nat.reduceLT, Nat.reduceBEq, Int.reduceEq, Int.reduceBEq, Int.reduceBNe, Int.reduceLT, Int.reduceLE, Int.reduceAdd, Int.reduceSub, Int.reduceNeg, Int.reduceToNat, Int.reducePow, Nat.reducePow, Int.reduceMul, Int.reduceDiv, ↓s_law_small_b0, hlen, hlt, hlt2, ix, c1, c2, k1', k2']
          exact ih
        · have k2' : (44 : Int) < ((bl a.val).length : Int) := by omega
          have ok : okA a = false := by unfold okA; simp [k2]
          rw [ok, Bool.false_and, if_neg (by decide)]
          simp (disch := first | with_reducible rfl | assumption | omega | rfl | (simp only [go_sem]; first | done | omega)) only [go_sem, ↓reduceIte, reduceCtorEq, Nat.reduceEqDiff, Nat.reduceAdd, Nat.reduceSub, Nat.reduceMul, Nat.reduceDiv, Nat.reduceMod, Nat.reduceLeDiff, Nat.reduceLT, Nat.reduceBEq, Int.reduceEq, Int.reduceBEq, Int.reduceBNe, Int.reduceLT, Int.reduceLE, Int.reduceAdd, Int.reduceSub, Int.reduceNeg, Int.reduceToNat, Int.reducePow, Nat.reducePow, Int.reduceMul, Int.reduceDiv, ↓s_law_small_b0, hlen, hlt, hlt2, ix, c1, c2, k1', k2']
      · have k1' : (30 : Int) < ((bl a.key).length : Int) := by omega
        have ok : okA a = false := by unfold okA; simp [k1]
        rw [ok, Bool.false_and, if_neg (by decide)]
        simp (disch := first | with_reducible rfl | assumption | omega | rfl | (simp only [go_sem]; first | done | omega)) only [go_sem, ↓reduceIte, reduceCtorEq, Nat.reduceEqDiff, Nat.reduceAdd, Nat.reduceSub, Nat.reduceMul, Nat.reduceDiv, Nat.reduceMod, Nat.reduceLeDiff, Nat.reduceLT, Nat.reduceBEq, Int.reduceEq, Int.reduceBEq, Int.reduceBNe, Int.reduceLT, Int.reduceLE, Int.reduceAdd, Int.reduceSub, Int.reduceNeg, Int.reduceToNat, Int.reducePow, Nat.reducePow, Int.reduceMul, Int.reduceDiv, ↓s_law_small_b0, hlen, hlt, hlt2, ix, c1, c2, k1']
    · have hlt2 : ¬ (i : Int) < (most : Int) := by omega
      have : most - i = 0 := by omega
      rw [this, List.take_zero, List.all_nil, if_pos rfl]
      simp (disch := first | with_reducible rfl | assumption | omega | rfl | (simp only [go_sem]; first | done | omega)) only [go_sem, ↓reduceIte, reduceCtorEq, Nat.reduceEqDiff, Nat.reduceAdd, Nat.reduceSub, Nat.reduceMul, Nat.reduceDiv, Nat.reduceMod, Nat.reduceLeDiff, Nat.reduceLT, Nat.reduceBEq, Int.reduceEq, Int.reduceBEq, Int.reduceBNe, Int.reduceLT, Int.reduceLE, Int.reduceAdd, Int.reduceSub, Int.reduceNeg, Int.reduceToNat, Int.reducePow, Nat.reducePow, Int.reduceMul, Int.reduceDiv, ↓s_law_small_b0, hlen, hlt, hlt2]

theorem q_small {v : Value} {l : List Act} {H : AHeap} (r : Rd EAct H v l) (most : Nat) (hl : l.length ≤ 4611686018427387904) (hm : most ≤ 1000) : CC F.law_small [v, .int .i64 (most : Int)] H = some (.bool (smallB l most), H) := by
  have hloop := fun K => l_small r most hl hm K l 0 rfl (Nat.zero_le _) (Nat.zero_le _)
  rw [Nat.sub_zero] at hloop
  have hlen := r.lenS
  unfold smallB
  cases hc : (l.take most).all okA with
  | true =>
    rw [hc] at hloop
    have hloop : ∀ K : K, l_law_small_0 v (.int .i64 (most : Int)) (.int .i64 0) H (blkK [0, 1] 0 K) = K .normal [(0, v), (1, .int .i64 (most : Int))] H := hloop
    by_cases h : l.length ≤ most
    · have h' : (l.length : Int) ≤ (most : Int) := by omega
      rw [decide_eq_true h]
      apply pure_of _ (d_law_small _ _ H) rfl
      rotate_left 2
      · simp (disch := first | with_reducible rfl | assumption | omega | rfl | (simp only [go_sem]; first | done | omega)) only [go_sem, ↓reduceIte, reduceCtorEq, Nat.reduceEqDiff, Nat.reduceAdd, Nat.reduceSub, Nat.reduceMul, Nat.reduceDiv, Nat.reduceMod, Nat.reduceLeDiff, Nat.reduceLT, Nat.reduceBEq, Int.reduceEq, Int.reduceBEq, Int.reduceBNe, Int.reduceLT, Int.reduceLE, Int.reduceAdd, Int.reduceSub, Int.reduceNeg, Int.reduceToNat, Int.reducePow, Nat.reducePow, Int.reduceMul, Int.reduceDiv, ↓s_law_small, hloop, hlen, h']
        rfl
      · (repeat (first | exact Fr.refl _ | refine Fr.push ?_ _ | refine Fr.set ?_ _ _ (by intro h; first | omega | (simp only [go_sem] at h; omega))))
    · have h' : ¬ (l.length : Int) ≤ (most : Int) := by omega
      rw [decide_eq_false h]
      apply pure_of _ (d_law_small _ _ H) rfl
      rotate_left 2
      · simp (disch := first | with_reducible rfl | assumption | omega | rfl | (simp only [go_sem]; first | done | omega)) only [go_sem, ↓reduceIte, reduceCtorEq, Nat.reduceEqDiff, Nat.reduceAdd, Nat.reduceSub, Nat.reduceMul, Nat.reduceDiv, Nat.reduceMod, Nat.reduceLeDiff, Nat.reduceLT, Nat.reduceBEq, Int.reduceEq, Int.reduceBEq, Int.reduceBNe, Int.reduceLT, Int.reduceLE, Int.reduceAdd, Int.reduceSub, Int.reduceNeg, Int.reduceToNat, Int.reducePow, Nat.reducePow, Int.reduceMul, Int.reduceDiv, ↓s_law_small, hloop, hlen, h']
        rfl
      · (repeat (first | exact Fr.refl _ | refine Fr.push ?_ _ | refine Fr.set ?_ _ _ (by intro h; first | omega | (simp only [go_sem] at h; omega))))
  | false =>
    rw [hc] at hloop
    have hloop : ∀ K : K, l_law_small_0 v (.int .i64 (most : Int)) (.int .i64 0) H (blkK [0, 1] 0 K) = K .ret [(4, .bool false)] H := hloop
    apply pure_of _ (d_law_small _ _ H) rfl
    rotate_left 2
    · simp (disch := first | with_reducible rfl | assumption | omega | rfl | (simp only [go_sem]; first | done | omega)) only [go_sem, ↓reduceIte, reduceCtorEq, Nat.reduceEqDiff, Nat.reduceAdd, Nat.reduceSub, Nat.reduceMul, Nat.reduceDiv, Nat.reduceMod, Nat.reduceLeDiff, Nat.reduceLT, Nat.reduceBEq, Int.reduceEq, Int.reduceBEq, Int.reduceBNe, Int.reduceLT, Int.reduceLE, Int.reduceAdd, Int.reduceSub, Int.reduceNeg, Int.reduceToNat, Int.reducePow, Nat.reducePow, Int.reduceMul, Int.reduceDiv, ↓s_law_small, hloop]
      rfl
    · (repeat (first | exact Fr.refl _ | refine Fr.push ?_ _ | refine Fr.set ?_ _ _ (by intro h; first | omega | (simp only [go_sem] at h; omega))))

section
variable {b : Nat} {key val : ByteArray} {n : Int}
def actB (w : Int) (key val : ByteArray) (n : Int) : Blk := .cells [.int .i64 w, .string key, .string val, .int .i64 n] T.law_Act true
theorem l_nil (k : Nat) (hk : k < 4) (w : Int) (H : AHeap) (hf : H.f b = actB w key val n) (K : K) :
    l_law_ExpireNil_0 (.pointer (some ⟨b, 0, none⟩)) (.pointer none) (.int .i64 (k : Int)) H K = l_law_ExpireNil_0 (.pointer (some ⟨b, 0, none⟩)) (.pointer none) (.int .i64 ((k + 1 : Nat) : Int)) (H.set b (actB (k : Int) key val n)) K := by
  have hlt : (k : Int) < 4 := by omega
  unfold actB at hf ⊢
  obtain ⟨H1, hH1⟩ : ∃ H1, H.set b (.cells [.int .i64 (k : Int), .string key, .string val, .int .i64 n] T.law_Act true) = H1 := ⟨_, rfl⟩
  have f1 : H1.f b = .cells [.int .i64 (k : Int), .string key, .string val, .int .i64 n] T.law_Act true := by rw [← hH1]; exact set_f_eq
  have e := n_calls ⟨(k : Int), key, val, n⟩ H1
  have e : CC F.law_calls [.pointer none, .agg ⟨[.int .i64 (k : Int), .string key, .string val, .int .i64 n]⟩] H1 = some (.int .i64 1, H1) := e
  rw [r_law_ExpireNil_0, hH1]
  simp (disch := first | with_reducible rfl | assumption | omega | rfl | (simp only [go_sem]; first | done | omega)) only [go_sem, ↓reduceIte, reduceCtorEq, Nat.reduceEqDiff, Nat.reduceAdd, Nat.reduceSub, Nat.reduceMul, Nat.reduceDiv, Nat.reduceMod, Nat.reduceLeDiff, Nat.reduceLT, Nat.reduceBEq, Int.reduceEq, Int.reduceBEq, Int.reduceBNe, Int.reduceLT, Int.reduceLE, Int.reduceAdd, Int.reduceSub, Int.reduceNeg, Int.reduceToNat, Int.reducePow, Nat.reducePow, Int.reduceMul, Int.reduceDiv, ↓s_law_ExpireNil_b0, hlt, hf, hH1, f1, ↓enterK_eq e, enterK_eq e]
end

theorem q_ExpireNil (a : Act) (H : AHeap) : ∃ H', CC F.law_ExpireNil [.agg ⟨EAct.enc a⟩] H = some (.bool true, H') := by
  obtain ⟨H1, hH1⟩ : ∃ H1, H.push (actB a.what a.key a.val a.n) = H1 := ⟨_, rfl⟩
  have f1 : H1.f H.n = .cells [.int .i64 a.what, .string a.key, .string a.val, .int .i64 a.n] T.law_Act true := by rw [← hH1]; exact push_f_eq rfl
  have nw : newv T.law_Act (.agg ⟨EAct.enc a⟩) H = some (.pointer (some ⟨H.n, 0, none⟩), H1) := by rw [← hH1]; rfl
  obtain ⟨H2, hH2⟩ : ∃ H2, H1.push (actB a.what a.key a.val a.n) = H2 := ⟨_, rfl⟩
  have n1 : H1.n = H.n + 1 := by rw [← hH1]; rfl
  have f2 : H2.f H.n = actB a.what a.key a.val a.n := by rw [← hH2, push_f_ne (by omega)]; exact f1
  have bd : bldL T.law_Act [(.int .i64 0), (.string (mk [])), (.string (mk [])), (.int .i64 0)] 1 [(0, .agg ⟨[.int .i64 a.what, .string a.key, .string a.val, .int .i64 a.n]⟩)] H1 = some (.slice (some ⟨H1.n, 0, none⟩) 1 (2 * 1), H2) := by rw [← hH2]; rfl
  have rl : Rd EAct H2 (.slice (some ⟨H1.n, 0, none⟩) 1 (2 * 1)) [a] := .inr (.inr ⟨H1.n, 0, _, rfl, by simp, by rw [← hH2]; exact Nat.lt_succ_self _, by rw [← hH2, push_f_eq rfl]; rfl⟩)
  have hs := q_small rl 1 (by simp) (by decide)
  have hs : CC F.law_small [.slice (some ⟨H1.n, 0, none⟩) 1 (2 * 1), .int .i64 1] H2 = some (.bool (smallB [a] 1), H2) := hs
  cases hb : smallB [a] 1 with
  | false =>
    rw [hb] at hs
    refine any_of (H1 := H2) (d_law_ExpireNil _ H ?_)
    simp (disch := first | with_reducible rfl | assumption | omega | rfl | (simp only [go_sem]; first | done | omega)) only [go_sem, ↓reduceIte, reduceCtorEq, Nat.reduceEqDiff, Nat.reduceAdd, Nat.reduceSub, Nat.reduceMul, Nat.reduceDiv, Nat.reduceMod, Nat.reduceLeDiff, Nat.reduceLT, Nat.reduceBEq, Int.reduceEq, Int.reduceBEq, Int.reduceBNe, Int.reduceLT, Int.reduceLE, Int.reduceAdd, Int.reduceSub, Int.reduceNeg, Int.reduceToNat, Int.reducePow, Nat.reducePow, Int.reduceMul, Int.reduceDiv, ↓s_law_ExpireNil, nw, f1, bd, ↓bd, ↓enterK_eq hs, enterK_eq hs, e_known]
  | true =>
    rw [hb] at hs
    have k0 := fun K => l_nil (b := H.n) 0 (by decide) a.what H2 f2 K
    obtain ⟨H3, hH3⟩ : ∃ H3, H2.set H.n (actB ((0 : Nat) : Int) a.key a.val a.n) = H3 := ⟨_, rfl⟩
    have k1 := fun K => l_nil (b := H.n) (key := a.key) (val := a.val) (n := a.n) 1 (by decide) _ H3 (by rw [← hH3]; exact set_f_eq) K
    obtain ⟨H4, hH4⟩ : ∃ H4, H3.set H.n (actB ((1 : Nat) : Int) a.key a.val a.n) = H4 := ⟨_, rfl⟩
    have k2 := fun K => l_nil (b := H.n) (key := a.key) (val := a.val) (n := a.n) 2 (by decide) _ H4 (by rw [← hH4]; exact set_f_eq) K
    obtain ⟨H5, hH5⟩ : ∃ H5, H4.set H.n (actB ((2 : Nat) : Int) a.key a.val a.n) = H5 := ⟨_, rfl⟩
    have k3 := fun K => l_nil (b := H.n) (key := a.key) (val := a.val) (n := a.n) 3 (by decide) _ H5 (by rw [← hH5]; exact set_f_eq) K
    obtain ⟨H6, hH6⟩ : ∃ H6, H5.set H.n (actB ((3 : Nat) : Int) a.key a.val a.n) = H6 := ⟨_, rfl⟩
    have f6 : H6.f H.n = .cells [.int .i64 3, .string a.key, .string a.val, .int .i64 a.n] T.law_Act true := by rw [← hH6]; exact set_f_eq
    have k4 : ∀ K : K, l_law_ExpireNil_0 (.pointer (some ⟨H.n, 0, none⟩)) (.pointer none) (.int .i64 ((3 + 1 : Nat) : Int)) H6 (blkK [1, 3] 0 K) = K .normal [(1, .pointer (some ⟨H.n, 0, none⟩)), (3, .pointer none)] H6 := fun K => by
      have : ¬ ((3 + 1 : Nat) : Int) < 4 := by decide
      rw [r_law_ExpireNil_0]
      simp (disch := first | with_reducible rfl | assumption | omega | rfl | (simp only [go_sem]; first | done | omega)) only [go_sem, ↓reduceIte, reduceCtorEq, Nat.reduceEqDiff, Nat.reduceAdd, Nat.reduceSub, Nat.reduceMul, Nat.reduceDiv, Nat.reduceMod, Nat.reduceLeDiff, Nat.reduceLT, Nat.reduceBEq, Int.reduceEq, Int.reduceBEq, Int.reduceBNe, Int.reduceLT, Int.reduceLE, Int.reduceAdd, Int.reduceSub, Int.reduceNeg, Int.reduceToNat, Int.reducePow, Nat.reducePow, Int.reduceMul, Int.reduceDiv, ↓s_law_ExpireNil_b0, this]
    have hl : ∀ K : K, l_law_ExpireNil_0 (.pointer (some ⟨H.n, 0, none⟩)) (.pointer none) (.int .i64 0) H2 (blkK [1, 3] 0 K) = K .normal [(1, .pointer (some ⟨H.n, 0, none⟩)), (3, .pointer none)] H6 := fun K => by
      have h0 := k0 (blkK [1, 3] 0 K)
      have h1 := k1 (blkK [1, 3] 0 K)
      have h2 := k2 (blkK [1, 3] 0 K)
      have h3 := k3 (blkK [1, 3] 0 K)
      rw [hH3] at h0
      rw [hH4] at h1
      rw [hH5] at h2
      rw [hH6] at h3
      exact h0.trans (h1.trans (h2.trans (h3.trans (k4 K))))
    have g := n_gets a.key H6
    have s := n_sweeps a.n H6
    have e1 := n_Now H6
    have e2 := n_Next H6
    have e3 := n_Len H6
    have e4 := n_Waiting H6
    have e5 := n_Alive H6
    have e6 := n_Copy H6
    refine any_of (H1 := H6) (d_law_ExpireNil _ H ?_)
    simp (disch := first | with_reducible rfl | assumption | omega | rfl | (simp only [go_sem]; first | done | omega)) only [go_sem, ↓reduceIte, reduceCtorEq, Nat.reduceEqDiff, Nat.reduceAdd, Nat.reduceSub, Nat.reduceMul, Nat.reduceDiv, Nat.reduceMod, Nat.reduceLeDiff, Nat.reduceLT, Nat.reduceBEq, Int.reduceEq, Int.reduceBEq, Int.reduceBNe, Int.reduceLT, Int.reduceLE, Int.reduceAdd, Int.reduceSub, Int.reduceNeg, Int.reduceToNat, Int.reducePow, Nat.reducePow, Int.reduceMul, Int.reduceDiv, ↓s_law_ExpireNil, nw, f1, bd, ↓bd, ↓enterK_eq hs, enterK_eq hs, hl, f6, ↓enterK_eq g, enterK_eq g, ↓enterK_eq s, enterK_eq s, ↓enterK_eq e1, enterK_eq e1, ↓enterK_eq e2, enterK_eq e2, ↓enterK_eq e3, enterK_eq e3, ↓enterK_eq e4, enterK_eq e4, ↓enterK_eq e5, enterK_eq e5, ↓enterK_eq e6, enterK_eq e6, e_known]

theorem run_ExpireNil (W : World) (v : Value) (a : Act) (hv : v = .agg ⟨EAct.enc a⟩) (_ : True) : ∃ k H', dCall Try.prog prims1 hints k F.law_ExpireNil [v] (absHeap2 W) = some (.bool true, H') := by
  subst hv
  obtain ⟨H', h⟩ := q_ExpireNil a (absHeap2 W)
  obtain ⟨k, h⟩ := D_run h
  exact ⟨k, _, h⟩

theorem decAct {W : World} {H : Type} {enc : TypeId × Value → H} {p : Prop} (_ : p) {cs : List Value} {n : Nat} {y : DataW H × List MemPlace} (h : DataW.trod enc Try.prog W 0 (fun _ => true) true n T.law_Act cs = some y) (hl : cs.length = EAct.w) :
    ∃ a : Act, cs.map (conv2 W.heap.size) = EAct.enc a ∧ True := by
  have ht := Try.underlying44
  obtain ⟨c0, c1, c2, c3, rfl⟩ : ∃ c0 c1 c2 c3, cs = [c0, c1, c2, c3] := by
    match cs, hl with
    | [c0, c1, c2, c3], _ => exact ⟨_, _, _, _, rfl⟩
  obtain ⟨m0, z0, h0⟩ := dec_field ht h (i := 0) rfl rfl (by kernel_rfl) rfl
  obtain ⟨m1, z1, h1⟩ := dec_field ht h (i := 1) rfl rfl (by kernel_rfl) rfl
  obtain ⟨m2, z2, h2⟩ := dec_field ht h (i := 2) rfl rfl (by kernel_rfl) rfl
  obtain ⟨m3, z3, h3⟩ := dec_field ht h (i := 3) rfl rfl (by kernel_rfl) rfl
  obtain ⟨s0, rfl, _⟩ := dec_int Try.underlying3 h0
  obtain ⟨s1, rfl, _⟩ := dec_str Try.underlying9 h1
  obtain ⟨s2, rfl, _⟩ := dec_str Try.underlying9 h2
  obtain ⟨s3, rfl, _⟩ := dec_int Try.underlying3 h3
  exact ⟨⟨s0, s1, s2, s3⟩, rfl, trivial⟩

end Go.Proofs.Ythjjkinpbpealaa

/-
  The law ExpireNil: for every input it returns true, and its input reads as it did.
  Conditions: none. By an AI agent.
-/
namespace Go.Proofs.Ythjjkinpbpealaa.expireNil
open Go.ChangeShapes Go.WideShapes Go.ChangeAt Go.RowKit
open Go.ChangeMaps (open_string shut_string)
set_option linter.unusedVariables false
theorem own : ownKnob Try.prog.godebug = none := by kernel_rfl
theorem laidOut : laidOutB Try.prog = true := by kernel_rfl
set_option maxRecDepth 100000 in
theorem lifted (os : Os) (started : os.Started) (H : Type) (enc : TypeId × Value → H) :
    ReturnsInHanded {} Try.checked os 6 .any (Rows.expireNilSpec.pre6 enc Try.prog Try.f6 Rows.expireNilRow.domain false) (Rows.expireNilSpec.post enc Try.prog Try.f6 false true false false) := by
  refine returnsInHanded_of_change_sized (C := Try.checked) own started (by kernel_rfl) Try.func6
    (ChangeSpec.witness6 (enc := enc) (C := Try.checked) false ⟨#[], #[.agg #[(.int .i64 0), (.string ByteArray.empty), (.string ByteArray.empty), (.int .i64 0)]], []⟩ 8 (by kernel_rfl) (by kernel_rfl) (by kernel_rfl) (by kernel_rfl)) ?_
  intro W base args ds gs before hval0 hW hcnd hsz0 _
  have hsz : (DataW.weightsEach Try.prog (Try.f6.params.toList ++ Rows.expireNilSpec.plain.varTypes Try.prog) (ds ++ gs)).all (· ≤ reachBytes) = true := hsz0
  have hval : ∀ (j : Nat) t v, Try.f6.params[j]? = some t → args[j]? = some v → Value.okWide Try.prog W .any base t v := hval0
  have hW' := hW
  obtain ⟨p, q, hA0, hV, rfl, hfz, hnd⟩ := hW
  have hA : DataW.TrodAll enc Try.prog W 0 (fun _ => true) true Try.f6.params.toList args.toList ds p := hA0
  rw [Try.params6] at hA hval hsz
  obtain ⟨v0, vs0, d0, ds0, p0, q0, hargs, rfl, rfl, h0, r0⟩ := trodAll_cons hA
  obtain ⟨rfl, rfl, rfl⟩ := trodAll_nil r0
  obtain rfl : args = #[v0] := by cases args; simp_all
  obtain ⟨rfl, rfl⟩ := trodVars_none hV
  have k0 := h0
  have lt0 : ∀ x ∈ p0, x.block < W.heap.size := by obtain ⟨m, hm⟩ := k0; exact DataW.trod_lt m _ _ _ hm
  obtain ⟨l0, rd0, all0⟩ := Eng.open_agg2 (t := 44) Try.underlying44 (by kernel_rfl) (fun cs n y hp h hl => decAct hp h hl) (hval 0 44 v0 rfl rfl) k0
  refine (Eng.law_calls2 (args := #[v0]) prims1_ok mixed (fun _ hg => absurd hg List.not_mem_nil) (run_ExpireNil W (Eng.convA2 W.heap.size v0) l0 rd0 all0)).mono fun e W' ⟨he, bel⟩ => ?_
  subst he
  exact ⟨_, rfl, _, _, _, [], _, [], hW', trodAll_mk1 (shut_bool Try.underlying4 _), (trodAll_cons_mk (Below.trod laidOut (by kernel_rfl) (of_decide_eq_true (by kernel_rfl)) k0 bel lt0) trodAll_mk0), rfl, bel.frame _, fun h => by cases h⟩

theorem over : Rows.expireNilRow.holds Try.pinned (OpenSpec.ofChange Rows.expireNilSpec) :=
  OpenClaim.holds_of_wide 6 Try.f6 rfl rfl rfl rfl rfl rfl rfl ⟨rfl, rfl, rfl, rfl, rfl⟩ rfl rfl rfl rfl rfl (by kernel_rfl) Try.func6 (by kernel_rfl)
    (of_decide_eq_true (by kernel_rfl)) (by unfold Func.isWrapper; first | (rw [if_pos (by decide +kernel)]; kernel_rfl) | (rw [if_neg (by decide +kernel)]; exact ⟨rfl, rfl⟩))
    (fun os started H enc _ => lifted os started H enc)
theorem proved : Rows.ExpireNilSaid := over
#print axioms proved
end Go.Proofs.Ythjjkinpbpealaa.expireNil
namespace Go.Proofs.Ythjjkinpbpealaa
/-- The row, under a short name, for the claim. -/
theorem expireNil_holds : Rows.ExpireNilSaid := expireNil.proved
end Go.Proofs.Ythjjkinpbpealaa
