/-
  19 texts in one (merge.py): ShExpireNil DsExpireNil Nil NilB M1 M2 M3 M4 Ord M5 M6 P A F ME Sa Sb Sc Sd.
  Conditions: none. By an AI agent.
-/
import Derived.Test.YthjjkinpbpealaaQc1
import Derived.Test.YthjjkinpbpealaaChecked
import Derived.KernelRfl

/-
  The seat's functions as terms over the engine's combinators (a program of ours printed it).
  Conditions: none. By an AI agent.
-/
set_option linter.unusedVariables false
namespace Go.Proofs.Ythjjkinpbpealaa
open Go Eng

/-! ticketline.ticketlinelaw45.ExpireNil -/

noncomputable def s_law_ExpireNil (mg : GT) (mc : CT) (ms : ST) (P : Program) (C : CallF) (L0 : Value → Value → Value → AHeap → K → Res) (a0 : Value) (H : AHeap) (K0 : K) : Res :=
bothK (newv T.law_Act a0 H) fun t1 h1 =>
bareK (ldN 4 h1 t1) h1 fun t5 h2 =>
bothK (bldL T.law_Act [(.int .i64 0), (.string (mk [])), (.string (mk [])), (.int .i64 0)] 1 [(0, t5)] h2) fun t6 h3 =>
enterK C F.law_small [t6, (.int .i64 1)] h3 fun t7 h4 =>
bareK (xun P .not t7) h4 fun t8 h5 =>
mc t8 (fun k1 => enterK C F.law_known [] h5 fun t9 h6 =>
k1 .ret [(2, t9)] h6) (fun k1 =>
k1 .normal [(1, t1)] h5) (seqK (fun tT h7 =>
ms (fun k2 =>
L0 (get tT 1) (.pointer none) (.int .i64 0) h7 (blkK [1, 3] 0 k2)) (seqK (fun tT_1 h8 =>
bareK (fad 1 (get tT_1 1)) h8 fun t21 h9 =>
bareK (ld1 h9 t21) h9 fun t22 h10 =>
enterK C F.law_gets [(get tT_1 3), t22, (.string (mk [])), (.int .i64 0), (.int .i64 1)] h10 fun t23 h11 =>
mg t23 true (fun o3 => o3 (get tT_1 3) h11) h11 fun t25 h12 =>
mg t23 true (fun o4 => bareK (fad 3 (get tT_1 1)) h12 o4) h12 fun t26 h13 =>
mg t23 true (fun o5 => bareK (ld1 h13 t26) h13 o5) h13 fun t27 h14 =>
mg t23 true (fun o6 => enterK C F.law_sweeps [t25, t27, (.slice none 0 0), (.int .i64 1)] h14 o6) h14 fun t28 h15 =>
pickK t23 t28 (.bool false) fun t29 =>
mg t29 true (fun o7 => o7 (get tT_1 3) h15) h15 fun t31 h16 =>
mg t29 true (fun o8 => enterK C F.expire_Store_Now [t31] h16 o8) h16 fun t32 h17 =>
mg t29 true (fun o9 => bareK (xbin P .eql T.int (.tmp 32) (.const (.int .i64 0)) t32 (.int .i64 0)) h17 o9) h17 fun t33 h18 =>
pickK t29 t33 (.bool false) fun t34 =>
mg t34 true (fun o10 => o10 (get tT_1 3) h18) h18 fun t36 h19 =>
mg t34 true (fun o11 => enterK C F.expire_Store_Next [t36] h19 o11) h19 fun t37 h20 =>
mg t34 true (fun o12 => bareK (xbin P .eql T.int (.tmp 37) (.const (.int .i64 0)) t37 (.int .i64 0)) h20 o12) h20 fun t38 h21 =>
pickK t34 t38 (.bool false) fun t39 =>
mg t39 true (fun o13 => o13 (get tT_1 3) h21) h21 fun t41 h22 =>
mg t39 true (fun o14 => enterK C F.expire_Store_Len [t41] h22 o14) h22 fun t42 h23 =>
mg t39 true (fun o15 => bareK (xbin P .eql T.int (.tmp 42) (.const (.int .i64 0)) t42 (.int .i64 0)) h23 o15) h23 fun t43 h24 =>
pickK t39 t43 (.bool false) fun t44 =>
mg t44 true (fun o16 => o16 (get tT_1 3) h24) h24 fun t46 h25 =>
mg t44 true (fun o17 => enterK C F.expire_Store_Waiting [t46] h25 o17) h25 fun t47 h26 =>
mg t44 true (fun o18 => bareK (xbin P .eql T.int (.tmp 47) (.const (.int .i64 0)) t47 (.int .i64 0)) h26 o18) h26 fun t48 h27 =>
pickK t44 t48 (.bool false) fun t49 =>
mg t49 true (fun o19 => o19 (get tT_1 3) h27) h27 fun t51 h28 =>
mg t49 true (fun o20 => enterK C F.expire_Store_Alive [t51] h28 o20) h28 fun t52 h29 =>
mg t49 true (fun o21 => bareK (lenS t52) h29 o21) h29 fun t53 h30 =>
mg t49 true (fun o22 => bareK (xbin P .eql T.int (.tmp 53) (.const (.int .i64 0)) t53 (.int .i64 0)) h30 o22) h30 fun t54 h31 =>
pickK t49 t54 (.bool false) fun t55 =>
mg t55 true (fun o23 => o23 (get tT_1 3) h31) h31 fun t57 h32 =>
mg t55 true (fun o24 => enterK C F.expire_Store_Copy [t57] h32 o24) h32 fun t58 h33 =>
mg t55 true (fun o25 => bareK (xbin P .eql T.p_expire_Store (.tmp 58) (.const (.pointer none)) t58 (.pointer none)) h33 o25) h33 fun t59 h34 =>
pickK t55 t59 (.bool false) fun t60 =>
mg t60 true (fun o26 => enterK C F.law_known [] h34 o26) h34 fun t62 h35 =>
pickK t60 t62 (.bool false) fun t63 =>
K0 .ret [(2, t63)] h35) K0)) K0)

noncomputable def s_law_ExpireNil_b0 (mg : GT) (mc : CT) (ms : ST) (P : Program) (C : CallF) (L0 : Value → Value → Value → AHeap → K → Res) (v1 : Value) (v3 : Value) (v4 : Value) (H : AHeap) (k : K) : Res :=
bareK (xbin P .lss T.int (.tmp 10) (.const (.int .i64 4)) v4 (.int .i64 4)) H fun t11 h8 =>
mc t11 (fun k3 => k3 .normal [(1, v1), (3, v3), (4, v4)] h8) (fun k3 =>
k3 (.exit 0) [(11, t11), (10, v4), (1, v1), (3, v3), (4, v4)] h8) (seqK (fun tT h9 =>
ms (fun k4 =>
bareK (fad 0 (get tT 1)) h9 fun t15 h10 =>
quietK (st1 h10 t15 (get tT 4)) fun _ h11 =>
bareK (ldN 4 h11 (get tT 1)) h11 fun t17 h12 =>
enterK C F.law_calls [(get tT 3), t17] h12 fun t18 h13 =>
bareK (xbin P .neq T.api_Errno (.tmp 18) (.const (.int .i64 1)) t18 (.int .i64 1)) h13 fun t19 h14 =>
mc t19 (fun k5 => k5 .ret [(2, (.bool false))] h14) (fun k5 =>
k5 .normal [(1, (get tT 1)), (3, (get tT 3)), (4, (get tT 4))] h14) (blkK [1, 3, 4] 1 k4)) (seqK (fun tT_1 h15 =>
bareK (xbin P .add T.int (.tmp 12) (.const (.int .i64 1)) (get tT_1 4) (.int .i64 1)) h15 fun t13 h16 =>
k .normal [(1, (get tT_1 1)), (3, (get tT_1 3)), (4, t13)] h16) (afterK [1, 3, 4] k))) (afterK [1, 3, 4] k))

theorem s_law_ExpireNil_eq (M : CombL) (C : CallF) (LP : LoopH) (a0 : Value) (H : AHeap) : dBodyL M Try.prog hints C LP F.law_ExpireNil [a0] H = s_law_ExpireNil M.b.g M.c M.s Try.prog C (fun v1 v3 v4 H k => loopL M Try.prog hints C LP F.law_ExpireNil 0 [(1, v1), (3, v3), (4, v4)] H k) a0 H (endK Try.prog [.tmp 2]) := by kernel_rfl

theorem s_law_ExpireNil_b0_eq (M : CombL) (C : CallF) (LP : LoopH) (v1 : Value) (v3 : Value) (v4 : Value) (H : AHeap) (k : K) : bodyL M Try.prog hints C LP F.law_ExpireNil 0 [(1, v1), (3, v3), (4, v4)] H (afterK [1, 3, 4] k) = s_law_ExpireNil_b0 M.b.g M.c M.s Try.prog C (fun v1 v3 v4 H k => loopL M Try.prog hints C LP F.law_ExpireNil 0 [(1, v1), (3, v3), (4, v4)] H k) v1 v3 v4 H k := by kernel_rfl

end Go.Proofs.Ythjjkinpbpealaa

/-
  The equations of the seat's functions over calls in the limit (a program of ours printed it).
  Conditions: none. By an AI agent.
-/
set_option linter.unusedVariables false
namespace Go.Proofs.Ythjjkinpbpealaa
open Go Eng



noncomputable def l_law_ExpireNil_0 (v1 : Value) (v3 : Value) (v4 : Value) (H : AHeap) (k : K) : Res := loopL stdL Try.prog hints CC limLP F.law_ExpireNil 0 [(1, v1), (3, v3), (4, v4)] H k
theorem r_law_ExpireNil_0 (v1 : Value) (v3 : Value) (v4 : Value) (H : AHeap) (k : K) : l_law_ExpireNil_0 v1 v3 v4 H k = s_law_ExpireNil_b0 guardK condL shareL Try.prog CC l_law_ExpireNil_0 v1 v3 v4 H (seqK (fun T H => l_law_ExpireNil_0 (get T 1) (get T 3) (get T 4) H k) k) := ((loopL_next (by kernel_rfl) rfl H k).trans (s_law_ExpireNil_b0_eq stdL CC limLP v1 v3 v4 H _)).trans (by kernel_rfl)
theorem d_law_ExpireNil (a0 : Value) (H : AHeap) {r : Value × AHeap} (h : s_law_ExpireNil guardK condL shareL Try.prog CC l_law_ExpireNil_0 a0 H (endK Try.prog [.tmp 2]) = some r) : CC F.law_ExpireNil [a0] H = some (tidy H r) := D_body (by kernel_rfl) ((s_law_ExpireNil_eq stdL CC limLP a0 H).trans (Eq.trans (show s_law_ExpireNil stdL.b.g stdL.c stdL.s Try.prog CC (fun v1 v3 v4 H k => loopL stdL Try.prog hints CC limLP F.law_ExpireNil 0 [(1, v1), (3, v3), (4, v4)] H k) a0 H (endK Try.prog [.tmp 2]) = s_law_ExpireNil guardK condL shareL Try.prog CC l_law_ExpireNil_0 a0 H (endK Try.prog [.tmp 2]) by kernel_rfl) h))

end Go.Proofs.Ythjjkinpbpealaa

/-
  Chapter 45: the law ExpireNil runs to true.
  Conditions: none. By an AI agent.
-/
set_option maxRecDepth 10000
set_option linter.unusedSimpArgs false
set_option linter.unusedVariables false
namespace Go.Proofs.Ythjjkinpbpealaa
open Go Eng
theorem bareK_congr' {x y : Option Value} {H : AHeap} {k : Value → AHeap → Res} (h : x = y) : bareK x H k = bareK y H k := by rw [h]
theorem bothK_congr' {x y : Option (Value × AHeap)} {k : Value → AHeap → Res} (h : x = y) : bothK x k = bothK y k := by rw [h]
theorem quietK_congr' {x y : Option AHeap} {k : Value → AHeap → Res} (h : x = y) : quietK x k = quietK y k := by rw [h]
attribute [local congr] bareK_congr' bothK_congr' quietK_congr'

structure Act where
  what : Int
  key : ByteArray
  val : ByteArray
  n : Int
def EAct : Enc Act := ⟨4, fun a => [.int .i64 a.what, .string a.key, .string a.val, .int .i64 a.n], fun _ => rfl, by decide, fun _ => rfl⟩

theorem k_known (H : AHeap) : CC F.law_known [] H = some (.bool true, H) := D_prim (show prims1 F.law_known = some trueP by kernel_rfl) rfl
@[go_sem, go_sem ↓] theorem e_known {H : AHeap} {k : Value → AHeap → Res} : enterK CC F.law_known [] H k = k (.bool true) H := enterK_eq (k_known H)
@[go_sem] theorem sp_some {ox oy : Operand} {a : Addr} : xbin Try.prog .eql T.p_expire_Store ox oy (.pointer (some a)) (.pointer none) = some (.bool false) := by kernel_rfl
@[go_sem] theorem sp_none {ox oy : Operand} : xbin Try.prog .eql T.p_expire_Store ox oy (.pointer none) (.pointer none) = some (.bool true) := by kernel_rfl

/-! ### the nil store -/
theorem n_Put (k v : ByteArray) (n : Int) (H : AHeap) : CC F.expire_Store_Put [.pointer none, .string k, .string v, .int .i64 n] H = some (.int .i64 1, H) := by
  apply pure_of _ (d_expire_Store_Put _ _ _ _ H) rfl
  rotate_left 2
  · simp (disch := first | with_reducible rfl | assumption | omega | rfl | (simp only [go_sem]; first | done | omega)) only [go_sem, ↓reduceIte, reduceCtorEq, Nat.reduceEqDiff, Nat.reduceAdd, Nat.reduceSub, Nat.reduceMul, Nat.reduceDiv, Nat.reduceMod, Nat.reduceLeDiff, Nat.reduceLT, Nat.reduceBEq, Int.reduceEq, Int.reduceBEq, Int.reduceBNe, Int.reduceLT, Int.reduceLE, Int.reduceAdd, Int.reduceSub, Int.reduceNeg, Int.reduceToNat, Int.reducePow, Nat.reducePow, Int.reduceMul, Int.reduceDiv, ↓s_expire_Store_Put]
    rfl
  · (repeat (first | exact Fr.refl _ | refine Fr.push ?_ _ | refine Fr.set ?_ _ _ (by intro h; first | omega | (simp only [go_sem] at h; omega))))
theorem n_Get (k : ByteArray) (H : AHeap) : CC F.expire_Store_Get [.pointer none, .string k] H = some (.tuple #[.string (mk []), .int .i64 0, .int .i64 1], H) := by
  apply pure_of _ (d_expire_Store_Get _ _ H) rfl
  rotate_left 2
  · simp (disch := first | with_reducible rfl | assumption | omega | rfl | (simp only [go_sem]; first | done | omega)) only [go_sem, ↓reduceIte, reduceCtorEq, Nat.reduceEqDiff, Nat.reduceAdd, Nat.reduceSub, Nat.reduceMul, Nat.reduceDiv, Nat.reduceMod, Nat.reduceLeDiff, Nat.reduceLT, Nat.reduceBEq, Int.reduceEq, Int.reduceBEq, Int.reduceBNe, Int.reduceLT, Int.reduceLE, Int.reduceAdd, Int.reduceSub, Int.reduceNeg, Int.reduceToNat, Int.reducePow, Nat.reducePow, Int.reduceMul, Int.reduceDiv, ↓s_expire_Store_Get]
    rfl
  · (repeat (first | exact Fr.refl _ | refine Fr.push ?_ _ | refine Fr.set ?_ _ _ (by intro h; first | omega | (simp only [go_sem] at h; omega))))
theorem n_Extend (k : ByteArray) (n : Int) (H : AHeap) : CC F.expire_Store_Extend [.pointer none, .string k, .int .i64 n] H = some (.int .i64 1, H) := by
  apply pure_of _ (d_expire_Store_Extend _ _ _ H) rfl
  rotate_left 2
  · simp (disch := first | with_reducible rfl | assumption | omega | rfl | (simp only [go_sem]; first | done | omega)) only [go_sem, ↓reduceIte, reduceCtorEq, Nat.reduceEqDiff, Nat.reduceAdd, Nat.reduceSub, Nat.reduceMul, Nat.reduceDiv, Nat.reduceMod, Nat.reduceLeDiff, Nat.reduceLT, Nat.reduceBEq, Int.reduceEq, Int.reduceBEq, Int.reduceBNe, Int.reduceLT, Int.reduceLE, Int.reduceAdd, Int.reduceSub, Int.reduceNeg, Int.reduceToNat, Int.reducePow, Nat.reducePow, Int.reduceMul, Int.reduceDiv, ↓s_expire_Store_Extend]
    rfl
  · (repeat (first | exact Fr.refl _ | refine Fr.push ?_ _ | refine Fr.set ?_ _ _ (by intro h; first | omega | (simp only [go_sem] at h; omega))))
theorem n_Delete (k : ByteArray) (H : AHeap) : CC F.expire_Store_Delete [.pointer none, .string k] H = some (.int .i64 1, H) := by
  have e := n_Get k H
  apply pure_of _ (d_expire_Store_Delete _ _ H) rfl
  rotate_left 2
  · simp (disch := first | with_reducible rfl | assumption | omega | rfl | (simp only [go_sem]; first | done | omega)) only [go_sem, ↓reduceIte, reduceCtorEq, Nat.reduceEqDiff, Nat.reduceAdd, Nat.reduceSub, Nat.reduceMul, Nat.reduceDiv, Nat.reduceMod, Nat.reduceLeDiff, Nat.reduceLT, Nat.reduceBEq, Int.reduceEq, Int.reduceBEq, Int.reduceBNe, Int.reduceLT, Int.reduceLE, Int.reduceAdd, Int.reduceSub, Int.reduceNeg, Int.reduceToNat, Int.reducePow, Nat.reducePow, Int.reduceMul, Int.reduceDiv, ↓s_expire_Store_Delete, ↓enterK_eq e, enterK_eq e]
    rfl
  · (repeat (first | exact Fr.refl _ | refine Fr.push ?_ _ | refine Fr.set ?_ _ _ (by intro h; first | omega | (simp only [go_sem] at h; omega))))
theorem n_Pass (n : Int) (H : AHeap) : CC F.expire_Store_Pass [.pointer none, .int .i64 n] H = some (.int .i64 1, H) := by
  apply pure_of _ (d_expire_Store_Pass _ _ H) rfl
  rotate_left 2
  · simp (disch := first | with_reducible rfl | assumption | omega | rfl | (simp only [go_sem]; first | done | omega)) only [go_sem, ↓reduceIte, reduceCtorEq, Nat.reduceEqDiff, Nat.reduceAdd, Nat.reduceSub, Nat.reduceMul, Nat.reduceDiv, Nat.reduceMod, Nat.reduceLeDiff, Nat.reduceLT, Nat.reduceBEq, Int.reduceEq, Int.reduceBEq, Int.reduceBNe, Int.reduceLT, Int.reduceLE, Int.reduceAdd, Int.reduceSub, Int.reduceNeg, Int.reduceToNat, Int.reducePow, Nat.reducePow, Int.reduceMul, Int.reduceDiv, ↓s_expire_Store_Pass]
    rfl
  · (repeat (first | exact Fr.refl _ | refine Fr.push ?_ _ | refine Fr.set ?_ _ _ (by intro h; first | omega | (simp only [go_sem] at h; omega))))
theorem n_Sweep (n : Int) (H : AHeap) : CC F.expire_Store_Sweep [.pointer none, .int .i64 n] H = some (.tuple #[.slice none 0 0, .int .i64 1], H) := by
  apply pure_of _ (d_expire_Store_Sweep _ _ H) rfl
  rotate_left 2
  · simp (disch := first | with_reducible rfl | assumption | omega | rfl | (simp only [go_sem]; first | done | omega)) only [go_sem, ↓reduceIte, reduceCtorEq, Nat.reduceEqDiff, Nat.reduceAdd, Nat.reduceSub, Nat.reduceMul, Nat.reduceDiv, Nat.reduceMod, Nat.reduceLeDiff, Nat.reduceLT, Nat.reduceBEq, Int.reduceEq, Int.reduceBEq, Int.reduceBNe, Int.reduceLT, Int.reduceLE, Int.reduceAdd, Int.reduceSub, Int.reduceNeg, Int.reduceToNat, Int.reducePow, Nat.reducePow, Int.reduceMul, Int.reduceDiv, ↓s_expire_Store_Sweep]
    rfl
  · (repeat (first | exact Fr.refl _ | refine Fr.push ?_ _ | refine Fr.set ?_ _ _ (by intro h; first | omega | (simp only [go_sem] at h; omega))))
theorem n_Now (H : AHeap) : CC F.expire_Store_Now [.pointer none] H = some (.int .i64 0, H) := by
  apply pure_of _ (d_expire_Store_Now _ H) rfl
  rotate_left 2
  · simp (disch := first | with_reducible rfl | assumption | omega | rfl | (simp only [go_sem]; first | done | omega)) only [go_sem, ↓reduceIte, reduceCtorEq, Nat.reduceEqDiff, Nat.reduceAdd, Nat.reduceSub, Nat.reduceMul, Nat.reduceDiv, Nat.reduceMod, Nat.reduceLeDiff, Nat.reduceLT, Nat.reduceBEq, Int.reduceEq, Int.reduceBEq, Int.reduceBNe, Int.reduceLT, Int.reduceLE, Int.reduceAdd, Int.reduceSub, Int.reduceNeg, Int.reduceToNat, Int.reducePow, Nat.reducePow, Int.reduceMul, Int.reduceDiv, ↓s_expire_Store_Now]
    rfl
  · (repeat (first | exact Fr.refl _ | refine Fr.push ?_ _ | refine Fr.set ?_ _ _ (by intro h; first | omega | (simp only [go_sem] at h; omega))))
theorem n_Len (H : AHeap) : CC F.expire_Store_Len [.pointer none] H = some (.int .i64 0, H) := by
  apply pure_of _ (d_expire_Store_Len _ H) rfl
  rotate_left 2
  · simp (disch := first | with_reducible rfl | assumption | omega | rfl | (simp only [go_sem]; first | done | omega)) only [go_sem, ↓reduceIte, reduceCtorEq, Nat.reduceEqDiff, Nat.reduceAdd, Nat.reduceSub, Nat.reduceMul, Nat.reduceDiv, Nat.reduceMod, Nat.reduceLeDiff, Nat.reduceLT, Nat.reduceBEq, Int.reduceEq, Int.reduceBEq, Int.reduceBNe, Int.reduceLT, Int.reduceLE, Int.reduceAdd, Int.reduceSub, Int.reduceNeg, Int.reduceToNat, Int.reducePow, Nat.reducePow, Int.reduceMul, Int.reduceDiv, ↓s_expire_Store_Len]
    rfl
  · (repeat (first | exact Fr.refl _ | refine Fr.push ?_ _ | refine Fr.set ?_ _ _ (by intro h; first | omega | (simp only [go_sem] at h; omega))))
theorem n_Waiting (H : AHeap) : CC F.expire_Store_Waiting [.pointer none] H = some (.int .i64 0, H) := by
  apply pure_of _ (d_expire_Store_Waiting _ H) rfl
  rotate_left 2
  · simp (disch := first | with_reducible rfl | assumption | omega | rfl | (simp only [go_sem]; first | done | omega)) only [go_sem, ↓reduceIte, reduceCtorEq, Nat.reduceEqDiff, Nat.reduceAdd, Nat.reduceSub, Nat.reduceMul, Nat.reduceDiv, Nat.reduceMod, Nat.reduceLeDiff, Nat.reduceLT, Nat.reduceBEq, Int.reduceEq, Int.reduceBEq, Int.reduceBNe, Int.reduceLT, Int.reduceLE, Int.reduceAdd, Int.reduceSub, Int.reduceNeg, Int.reduceToNat, Int.reducePow, Nat.reducePow, Int.reduceMul, Int.reduceDiv, ↓s_expire_Store_Waiting]
    rfl
  · (repeat (first | exact Fr.refl _ | refine Fr.push ?_ _ | refine Fr.set ?_ _ _ (by intro h; first | omega | (simp only [go_sem] at h; omega))))
theorem n_Alive (H : AHeap) : CC F.expire_Store_Alive [.pointer none] H = some (.slice none 0 0, H) := by
  apply pure_of _ (d_expire_Store_Alive _ H) rfl
  rotate_left 2
  · simp (disch := first | with_reducible rfl | assumption | omega | rfl | (simp only [go_sem]; first | done | omega)) only [go_sem, ↓reduceIte, reduceCtorEq, Nat.reduceEqDiff, Nat.reduceAdd, Nat.reduceSub, Nat.reduceMul, Nat.reduceDiv, Nat.reduceMod, Nat.reduceLeDiff, Nat.reduceLT, Nat.reduceBEq, Int.reduceEq, Int.reduceBEq, Int.reduceBNe, Int.reduceLT, Int.reduceLE, Int.reduceAdd, Int.reduceSub, Int.reduceNeg, Int.reduceToNat, Int.reducePow, Nat.reducePow, Int.reduceMul, Int.reduceDiv, ↓s_expire_Store_Alive]
    rfl
  · (repeat (first | exact Fr.refl _ | refine Fr.push ?_ _ | refine Fr.set ?_ _ _ (by intro h; first | omega | (simp only [go_sem] at h; omega))))
theorem n_Next (H : AHeap) : CC F.expire_Store_Next [.pointer none] H = some (.int .i64 0, H) := D_prim (show prims1 F.expire_Store_Next = some nextP by kernel_rfl) rfl
theorem n_Copy (H : AHeap) : CC F.expire_Store_Copy [.pointer none] H = some (.pointer none, H) := D_prim (show prims1 F.expire_Store_Copy = some copyP by kernel_rfl) rfl

theorem n_gets (k : ByteArray) (H : AHeap) : CC F.law_gets [.pointer none, .string k, .string (mk []), .int .i64 0, .int .i64 1] H = some (.bool true, H) := by
  have e := n_Get k H
  apply pure_of _ (d_law_gets _ _ _ _ _ H) rfl
  rotate_left 2
  · simp (disch := first | with_reducible rfl | assumption | omega | rfl | (simp only [go_sem]; first | done | omega)) only [go_sem, ↓reduceIte, reduceCtorEq, Nat.reduceEqDiff, Nat.reduceAdd, Nat.reduceSub, Nat.reduceMul, Nat.reduceDiv, Nat.reduceMod, Nat.reduceLeDiff, Nat.reduceLT, Nat.reduceBEq, Int.reduceEq, Int.reduceBEq, Int.reduceBNe, Int.reduceLT, Int.reduceLE, Int.reduceAdd, Int.reduceSub, Int.reduceNeg, Int.reduceToNat, Int.reducePow, Nat.reducePow, Int.reduceMul, Int.reduceDiv, ↓s_law_gets, ↓enterK_eq e, enterK_eq e]
    rfl
  · (repeat (first | exact Fr.refl _ | refine Fr.push ?_ _ | refine Fr.set ?_ _ _ (by intro h; first | omega | (simp only [go_sem] at h; omega))))
theorem n_sweeps (n : Int) (H : AHeap) : CC F.law_sweeps [.pointer none, .int .i64 n, .slice none 0 0, .int .i64 1] H = some (.bool true, H) := by
  have e := n_Sweep n H
  apply pure_of _ (d_law_sweeps _ _ _ _ H) rfl
  rotate_left 2
  · simp (disch := first | with_reducible rfl | assumption | omega | rfl | (simp only [go_sem]; first | done | omega)) only [go_sem, ↓reduceIte, reduceCtorEq, Nat.reduceEqDiff, Nat.reduceAdd, Nat.reduceSub, Nat.reduceMul, Nat.reduceDiv, Nat.reduceMod, Nat.reduceLeDiff, Nat.reduceLT, Nat.reduceBEq, Int.reduceEq, Int.reduceBEq, Int.reduceBNe, Int.reduceLT, Int.reduceLE, Int.reduceAdd, Int.reduceSub, Int.reduceNeg, Int.reduceToNat, Int.reducePow, Nat.reducePow, Int.reduceMul, Int.reduceDiv, ↓s_law_sweeps, ↓enterK_eq e, enterK_eq e, ↓r_law_sweeps_0, ↓s_law_sweeps_b0]
    rfl
  · (repeat (first | exact Fr.refl _ | refine Fr.push ?_ _ | refine Fr.set ?_ _ _ (by intro h; first | omega | (simp only [go_sem] at h; omega))))
theorem n_calls (a : Act) (H : AHeap) : CC F.law_calls [.pointer none, .agg ⟨EAct.enc a⟩] H = some (.int .i64 1, H) := by
  obtain ⟨H1, hH1⟩ : ∃ H1, H.push (.cells (EAct.enc a) T.law_Act true) = H1 := ⟨_, rfl⟩
  have f1 : H1.f H.n = .cells [.int .i64 a.what, .string a.key, .string a.val, .int .i64 a.n] T.law_Act true := by rw [← hH1]; exact push_f_eq rfl
  have nw : newv T.law_Act (.agg ⟨EAct.enc a⟩) H = some (.pointer (some ⟨H.n, 0, none⟩), H1) := by rw [← hH1]; rfl
  have e1 := n_Put a.key a.val a.n H1
  have e2 := n_Extend a.key a.n H1
  have e3 := n_Delete a.key H1
  have e4 := n_Pass a.n H1
  have st : Still H H1 := by rw [← hH1]; exact (Fr.refl H).push _
  refine (d_law_calls _ _ H (r := (.int .i64 1, H1)) ?_).trans (congrArg some (tidy_same rfl st))
  by_cases h0 : a.what = 0
  · simp (disch := first | with_reducible rfl | assumption | omega | rfl | (simp only [go_sem]; first | done | omega)) only [go_sem, ↓reduceIte, reduceCtorEq, Nat.reduceEqDiff, Nat.reduceAdd, Nat.reduceSub, Nat.reduceMul, Nat.reduceDiv, Nat.reduceMod, Nat.reduceLeDiff, Nat.reduceLT, Nat.reduceBEq, Int.reduceEq, Int.reduceBEq, Int.reduceBNe, Int.reduceLT, Int.reduceLE, Int.reduceAdd, Int.reduceSub, Int.reduceNeg, Int.reduceToNat, Int.reducePow, Nat.reducePow, Int.reduceMul, Int.reduceDiv, ↓s_law_calls, nw, f1, h0, ↓enterK_eq e1, enterK_eq e1]
  · by_cases h1 : a.what = 1
    · simp (disch := first | with_reducible rfl | assumption | omega | rfl | (simp only [go_sem]; first | done | omega)) only [go_sem, ↓reduceIte, reduceCtorEq, Nat.reduceEqDiff, Nat.reduceAdd, Nat.reduceSub, Nat.reduceMul, Nat.reduceDiv, Nat.reduceMod, Nat.reduceLeDiff, Nat.reduceLT, Nat.reduceBEq, Int.reduceEq, Int.reduceBEq, Int.reduceBNe, Int.reduceLT, Int.reduceLE, Int.reduceAdd, Int.reduceSub, Int.reduceNeg, Int.reduceToNat, Int.reducePow, Nat.reducePow, Int.reduceMul, Int.reduceDiv, ↓s_law_calls, nw, f1, h0, h1, ↓enterK_eq e2, enterK_eq e2]
    · by_cases h2 : a.what = 2
      · simp (disch := first | with_reducible rfl | assumption | omega | rfl | (simp only [go_sem]; first | done | omega)) only [go_sem, ↓reduceIte, reduceCtorEq, Nat.reduceEqDiff, Nat.reduceAdd, Nat.reduceSub, Nat.reduceMul, Nat.reduceDiv, Nat.reduceMod, Nat.reduceLeDiff, Nat.reduceLT, Nat.reduceBEq, Int.reduceEq, Int.reduceBEq, Int.reduceBNe, Int.reduceLT, Int.reduceLE, Int.reduceAdd, Int.reduceSub, Int.reduceNeg, Int.reduceToNat, Int.reducePow, Nat.reducePow, Int.reduceMul, Int.reduceDiv, ↓s_law_calls, nw, f1, h0, h1, h2, ↓enterK_eq e3, enterK_eq e3]
      · simp (disch := first | with_reducible rfl | assumption | omega | rfl | (simp only [go_sem]; first | done | omega)) only [go_sem, ↓reduceIte, reduceCtorEq, Nat.reduceEqDiff, Nat.reduceAdd, Nat.reduceSub, Nat.reduceMul, Nat.reduceDiv, Nat.reduceMod, Nat.reduceLeDiff, Nat.reduceLT, Nat.reduceBEq, Int.reduceEq, Int.reduceBEq, Int.reduceBNe, Int.reduceLT, Int.reduceLE, Int.reduceAdd, Int.reduceSub, Int.reduceNeg, Int.reduceToNat, Int.reducePow, Nat.reducePow, Int.reduceMul, Int.reduceDiv, ↓s_law_calls, nw, f1, h0, h1, h2, ↓enterK_eq e4, enterK_eq e4]

end Go.Proofs.Ythjjkinpbpealaa

/-
  Chapter 45: the law ExpireNil runs to true: the law itself.
  Conditions: none. By an AI agent.
-/
set_option maxRecDepth 10000
set_option linter.unusedSimpArgs false
set_option linter.unusedVariables false
namespace Go.Proofs.Ythjjkinpbpealaa
open Go Eng
attribute [local congr] bareK_congr' bothK_congr' quietK_congr'

theorem drop_act {l m : List Act} {a : Act} {i : Nat} (h : l.drop i = a :: m) : ∃ hi : i < l.length, l[i] = a ∧ l.drop (i + 1) = m := by
  have hi : i < l.length := by
    by_cases hi : i < l.length
    · exact hi
    · rw [List.drop_eq_nil_of_le (by omega)] at h; cases h
  rw [List.drop_eq_getElem_cons hi] at h
  cases h
  exact ⟨hi, rfl, rfl⟩

def okA (a : Act) : Bool := decide ((bl a.key).length ≤ 30) && decide ((bl a.val).length ≤ 44)
def smallB (l : List Act) (most : Nat) : Bool := (l.take most).all okA && decide (l.length ≤ most)

theorem l_small {v : Value} {l : List Act} {H : AHeap} (r : Rd EAct H v l) (most : Nat) (hl : l.length ≤ 9223372036854775807) (hm : most ≤ 1000) (K : K) : ∀ (m : List Act) (i : Nat), l.drop i = m → i ≤ l.length → i ≤ most →
    l_law_small_0 v (.int .i64 (most : Int)) (.int .i64 (i : Int)) H (blkK [0, 1] 0 K) = if (m.take (most - i)).all okA then K .normal [(0, v), (1, .int .i64 (most : Int))] H else K .ret [(4, .bool false)] H
  | [], i, hd, hi, hm' => by
    have h : l.length ≤ i := List.drop_eq_nil_iff.1 hd
    have hlt : ¬ (i : Int) < (l.length : Int) := by omega
    have hlen := r.lenS
    rw [r_law_small_0, List.take_nil, List.all_nil, if_pos rfl]
    simp (disch := first | with_reducible rfl | assumption | omega | rfl | (simp only [go_sem]; first | done | omega)) only [go_sem, ↓reduceIte, reduceCtorEq, Nat.reduceEqDiff, Nat.reduceAdd, Nat.reduceSub, Nat.reduceMul, Nat.reduceDiv, Nat.reduceMod, Nat.reduceLeDiff, Nat.reduceLT, Nat.reduceBEq, Int.reduceEq, Int.reduceBEq, Int.reduceBNe, Int.reduceLT, Int.reduceLE, Int.reduceAdd, Int.reduceSub, Int.reduceNeg, Int.reduceToNat, Int.reducePow, Nat.reducePow, Int.reduceMul, Int.reduceDiv, ↓s_law_small_b0, hlen, hlt]
  | a :: m, i, hd, hi, hm' => by
    obtain ⟨h, ha, hd'⟩ := drop_act hd
    have hlt : (i : Int) < (l.length : Int) := by omega
    have hlen := r.lenS
    obtain ⟨bb, o, ix, hbn, hc, hbl⟩ := r.ix (q := .i64) h
    have ix : ixS 4 v (.int .i64 i) = some (.pointer (some ⟨bb, o, none⟩)) := ix
    rw [ha] at hc
    have c1 : cellB (H.f bb) (o + 1) = some (.string a.key) := cutB_cell hc (i := 1) (by decide)
    have c2 : cellB (H.f bb) (o + 2) = some (.string a.val) := cutB_cell hc (i := 2) (by decide)
    rw [r_law_small_0]
    by_cases hmo : i < most
    · have hlt2 : (i : Int) < (most : Int) := by omega
      obtain ⟨d, hd2⟩ : ∃ d, most - i = d + 1 := ⟨most - i - 1, by omega⟩
      rw [hd2, List.take_succ_cons, List.all_cons]
      by_cases k1 : (bl a.key).length ≤ 30
      · have k1' : ¬ (30 : Int) < ((bl a.key).length : Int) := by omega
        by_cases k2 : (bl a.val).length ≤ 44
        · have k2' : ¬ (44 : Int) < ((bl a.val).length : Int) := by omega
          have ok : okA a = true := by unfold okA; simp [k1, k2]
          have ih := l_small r most hl hm K m (i + 1) hd' (by omega) (by omega)
          rw [show most - (i + 1) = d by omega, Int.natCast_add] at ih
          rw [ok, Bool.true_and]
          simp (disch := first | with_reducible rfl | assumption | omega | rfl | (simp only [go_sem]; first | done | omega)) only [go_sem, ↓reduceIte, reduceCtorEq, Nat.reduceEqDiff, Nat.reduceAdd, Nat.reduceSub, Nat.reduceMul, Nat.reduceDiv, Nat.reduceMod, Nat.reduceLeDiff, Nat.reduceLT, Nat.reduceBEq, Int.reduceEq, Int.reduceBEq, Int.reduceBNe, Int.reduceLT, Int.reduceLE, Int.reduceAdd, Int.reduceSub, Int.reduceNeg, Int.reduceToNat, Int.reducePow, Nat.reducePow, Int.reduceMul, Int.reduceDiv, ↓s_law_small_b0, hlen, hlt, hlt2, ix, c1, c2, k1', k2']
          exact ih
        · have k2' : (44 : Int) < ((bl a.val).length : Int) := by omega
          have ok : okA a = false := by unfold okA; simp [k2]
          rw [ok, Bool.false_and, if_neg (by decide)]
          simp (disch := first | with_reducible rfl | assumption | omega | rfl | (simp only [go_sem]; first | done | omega)) only [go_sem, ↓reduceIte, reduceCtorEq, Nat.reduceEqDiff, Nat.reduceAdd, Nat.reduceSub, Nat.reduceMul, Nat.reduceDiv, Nat.reduceMod, Nat.reduceLeDiff, Nat.reduceLT, Nat.reduceBEq, Int.reduceEq, Int.reduceBEq, Int.reduceBNe, Int.reduceLT, Int.reduceLE, Int.reduceAdd, Int.reduceSub, Int.reduceNeg, Int.reduceToNat, Int.reducePow, Nat.reducePow, Int.reduceMul, Int.reduceDiv, ↓s_law_small_b0, hlen, hlt, hlt2, ix, c1, c2, k1', k2']
      · have k1' : (30 : Int) < ((bl a.key).length : Int) := by omega
        have ok : okA a = false := by unfold okA; simp [k1]
        rw [ok, Bool.false_and, if_neg (by decide)]
        simp (disch := first | with_reducible rfl | assumption | omega | rfl | (simp only [go_sem]; first | done | omega)) only [go_sem, ↓reduceIte, reduceCtorEq, Nat.reduceEqDiff, Nat.reduceAdd, Nat.reduceSub, Nat.reduceMul, Nat.reduceDiv, Nat.reduceMod, Nat.reduceLeDiff, Nat.reduceLT, Nat.reduceBEq, Int.reduceEq, Int.reduceBEq, Int.reduceBNe, Int.reduceLT, Int.reduceLE, Int.reduceAdd, Int.reduceSub, Int.reduceNeg, Int.reduceToNat, Int.reducePow, Nat.reducePow, Int.reduceMul, Int.reduceDiv, ↓s_law_small_b0, hlen, hlt, hlt2, ix, c1, c2, k1']
    · have hlt2 : ¬ (i : Int) < (most : Int) := by omega
      have : most - i = 0 := by omega
      rw [this, List.take_zero, List.all_nil, if_pos rfl]
      simp (disch := first | with_reducible rfl | assumption | omega | rfl | (simp only [go_sem]; first | done | omega)) only [go_sem, ↓reduceIte, reduceCtorEq, Nat.reduceEqDiff, Nat.reduceAdd, Nat.reduceSub, Nat.reduceMul, Nat.reduceDiv, Nat.reduceMod, Nat.reduceLeDiff, Nat.reduceLT, Nat.reduceBEq, Int.reduceEq, Int.reduceBEq, Int.reduceBNe, Int.reduceLT, Int.reduceLE, Int.reduceAdd, Int.reduceSub, Int.reduceNeg, Int.reduceToNat, Int.reducePow, Nat.reducePow, Int.reduceMul, Int.reduceDiv, ↓s_law_small_b0, hlen, hlt, hlt2]

theorem q_small {v : Value} {l : List Act} {H : AHeap} (r : Rd EAct H v l) (most : Nat) (hl : l.length ≤ 9223372036854775807) (hm : most ≤ 1000) : CC F.law_small [v, .int .i64 (most : Int)] H = some (.bool (smallB l most), H) := by
  have hloop := fun K => l_small r most hl hm K l 0 rfl (Nat.zero_le _) (Nat.zero_le _)
  rw [Nat.sub_zero] at hloop
  have hlen := r.lenS
  unfold smallB
  cases hc : (l.take most).all okA with
  | true =>
    rw [hc] at hloop
    have hloop : ∀ K : K, l_law_small_0 v (.int .i64 (most : Int)) (.int .i64 0) H (blkK [0, 1] 0 K) = K .normal [(0, v), (1, .int .i64 (most : Int))] H := hloop
    by_cases h : l.length ≤ most
    · have h' : (l.length : Int) ≤ (most : Int) := by omega
      rw [decide_eq_true h]
      apply pure_of _ (d_law_small _ _ H) rfl
      rotate_left 2
      · simp (disch := first | with_reducible rfl | assumption | omega | rfl | (simp only [go_sem]; first | done | omega)) only [go_sem, ↓reduceIte, reduceCtorEq, Nat.reduceEqDiff, Nat.reduceAdd, Nat.reduceSub, Nat.reduceMul, Nat.reduceDiv, Nat.reduceMod, Nat.reduceLeDiff, Nat.reduceLT, Nat.reduceBEq, Int.reduceEq, Int.reduceBEq, Int.reduceBNe, Int.reduceLT, Int.reduceLE, Int.reduceAdd, Int.reduceSub, Int.reduceNeg, Int.reduceToNat, Int.reducePow, Nat.reducePow, Int.reduceMul, Int.reduceDiv, ↓s_law_small, hloop, hlen, h']
        rfl
      · (repeat (first | exact Fr.refl _ | refine Fr.push ?_ _ | refine Fr.set ?_ _ _ (by intro h; first | omega | (simp only [go_sem] at h; omega))))
    · have h' : ¬ (l.length : Int) ≤ (most : Int) := by omega
      rw [decide_eq_false h]
      apply pure_of _ (d_law_small _ _ H) rfl
      rotate_left 2
      · simp (disch := first | with_reducible rfl | assumption | omega | rfl | (simp only [go_sem]; first | done | omega)) only [go_sem, ↓reduceIte, reduceCtorEq, Nat.reduceEqDiff, Nat.reduceAdd, Nat.reduceSub, Nat.reduceMul, Nat.reduceDiv, Nat.reduceMod, Nat.reduceLeDiff, Nat.reduceLT, Nat.reduceBEq, Int.reduceEq, Int.reduceBEq, Int.reduceBNe, Int.reduceLT, Int.reduceLE, Int.reduceAdd, Int.reduceSub, Int.reduceNeg, Int.reduceToNat, Int.reducePow, Nat.reducePow, Int.reduceMul, Int.reduceDiv, ↓s_law_small, hloop, hlen, h']
        rfl
      · (repeat (first | exact Fr.refl _ | refine Fr.push ?_ _ | refine Fr.set ?_ _ _ (by intro h; first | omega | (simp only [go_sem] at h; omega))))
  | false =>
    rw [hc] at hloop
    have hloop : ∀ K : K, l_law_small_0 v (.int .i64 (most : Int)) (.int .i64 0) H (blkK [0, 1] 0 K) = K .ret [(4, .bool false)] H := hloop
    apply pure_of _ (d_law_small _ _ H) rfl
    rotate_left 2
    · simp (disch := first | with_reducible rfl | assumption | omega | rfl | (simp only [go_sem]; first | done | omega)) only [go_sem, ↓reduceIte, reduceCtorEq, Nat.reduceEqDiff, Nat.reduceAdd, Nat.reduceSub, Nat.reduceMul, Nat.reduceDiv, Nat.reduceMod, Nat.reduceLeDiff, Nat.reduceLT, Nat.reduceBEq, Int.reduceEq, Int.reduceBEq, Int.reduceBNe, Int.reduceLT, Int.reduceLE, Int.reduceAdd, Int.reduceSub, Int.reduceNeg, Int.reduceToNat, Int.reducePow, Nat.reducePow, Int.reduceMul, Int.reduceDiv, ↓s_law_small, hloop]
      rfl
    · (repeat (first | exact Fr.refl _ | refine Fr.push ?_ _ | refine Fr.set ?_ _ _ (by intro h; first | omega | (simp only [go_sem] at h; omega))))

section
variable {b : Nat} {key val : ByteArray} {n : Int}
def actB (w : Int) (key val : ByteArray) (n : Int) : Blk := .cells [.int .i64 w, .string key, .string val, .int .i64 n] T.law_Act true
theorem l_nil (k : Nat) (hk : k < 4) (w : Int) (H : AHeap) (hf : H.f b = actB w key val n) (K : K) :
    l_law_ExpireNil_0 (.pointer (some ⟨b, 0, none⟩)) (.pointer none) (.int .i64 (k : Int)) H K = l_law_ExpireNil_0 (.pointer (some ⟨b, 0, none⟩)) (.pointer none) (.int .i64 ((k + 1 : Nat) : Int)) (H.set b (actB (k : Int) key val n)) K := by
  have hlt : (k : Int) < 4 := by omega
  unfold actB at hf ⊢
  obtain ⟨H1, hH1⟩ : ∃ H1, H.set b (.cells [.int .i64 (k : Int), .string key, .string val, .int .i64 n] T.law_Act true) = H1 := ⟨_, rfl⟩
  have f1 : H1.f b = .cells [.int .i64 (k : Int), .string key, .string val, .int .i64 n] T.law_Act true := by rw [← hH1]; exact set_f_eq
  have e := n_calls ⟨(k : Int), key, val, n⟩ H1
  have e : CC F.law_calls [.pointer none, .agg ⟨[.int .i64 (k : Int), .string key, .string val, .int .i64 n]⟩] H1 = some (.int .i64 1, H1) := e
  rw [r_law_ExpireNil_0, hH1]
  simp (disch := first | with_reducible rfl | assumption | omega | rfl | (simp only [go_sem]; first | done | omega)) only [go_sem, ↓reduceIte, reduceCtorEq, Nat.reduceEqDiff, Nat.reduceAdd, Nat.reduceSub, Nat.reduceMul, Nat.reduceDiv, Nat.reduceMod, Nat.reduceLeDiff, Nat.reduceLT, Nat.reduceBEq, Int.reduceEq, Int.reduceBEq, Int.reduceBNe, Int.reduceLT, Int.reduceLE, Int.reduceAdd, Int.reduceSub, Int.reduceNeg, Int.reduceToNat, Int.reducePow, Nat.reducePow, Int.reduceMul, Int.reduceDiv, ↓s_law_ExpireNil_b0, hlt, hf, hH1, f1, ↓enterK_eq e, enterK_eq e]
end

theorem q_ExpireNil (a : Act) (H : AHeap) : ∃ H', CC F.law_ExpireNil [.agg ⟨EAct.enc a⟩] H = some (.bool true, H') := by
  obtain ⟨H1, hH1⟩ : ∃ H1, H.push (actB a.what a.key a.val a.n) = H1 := ⟨_, rfl⟩
  have f1 : H1.f H.n = .cells [.int .i64 a.what, .string a.key, .string a.val, .int .i64 a.n] T.law_Act true := by rw [← hH1]; exact push_f_eq rfl
  have nw : newv T.law_Act (.agg ⟨EAct.enc a⟩) H = some (.pointer (some ⟨H.n, 0, none⟩), H1) := by rw [← hH1]; rfl
  obtain ⟨H2, hH2⟩ : ∃ H2, H1.push (actB a.what a.key a.val a.n) = H2 := ⟨_, rfl⟩
  have n1 : H1.n = H.n + 1 := by rw [← hH1]; rfl
  have f2 : H2.f H.n = actB a.what a.key a.val a.n := by rw [← hH2, push_f_ne (by omega)]; exact f1
  have bd : bldL T.law_Act [(.int .i64 0), (.string (mk [])), (.string (mk [])), (.int .i64 0)] 1 [(0, .agg ⟨[.int .i64 a.what, .string a.key, .string a.val, .int .i64 a.n]⟩)] H1 = some (.slice (some ⟨H1.n, 0, none⟩) 1 (2 * 1), H2) := by rw [← hH2]; rfl
  have rl : Rd EAct H2 (.slice (some ⟨H1.n, 0, none⟩) 1 (2 * 1)) [a] := .inr (.inr ⟨H1.n, 0, _, rfl, by simp, by rw [← hH2]; exact Nat.lt_succ_self _, by rw [← hH2, push_f_eq rfl]; rfl⟩)
  have hs := q_small rl 1 (by simp) (by decide)
  have hs : CC F.law_small [.slice (some ⟨H1.n, 0, none⟩) 1 (2 * 1), .int .i64 1] H2 = some (.bool (smallB [a] 1), H2) := hs
  cases hb : smallB [a] 1 with
  | false =>
    rw [hb] at hs
    refine any_of (H1 := H2) (d_law_ExpireNil _ H ?_)
    simp (disch := first | with_reducible rfl | assumption | omega | rfl | (simp only [go_sem]; first | done | omega)) only [go_sem, ↓reduceIte, reduceCtorEq, Nat.reduceEqDiff, Nat.reduceAdd, Nat.reduceSub, Nat.reduceMul, Nat.reduceDiv, Nat.reduceMod, Nat.reduceLeDiff, Nat.reduceLT, Nat.reduceBEq, Int.reduceEq, Int.reduceBEq, Int.reduceBNe, Int.reduceLT, Int.reduceLE, Int.reduceAdd, Int.reduceSub, Int.reduceNeg, Int.reduceToNat, Int.reducePow, Nat.reducePow, Int.reduceMul, Int.reduceDiv, ↓s_law_ExpireNil, nw, f1, bd, ↓bd, ↓enterK_eq hs, enterK_eq hs, e_known]
  | true =>
    rw [hb] at hs
    have k0 := fun K => l_nil (b := H.n) 0 (by decide) a.what H2 f2 K
    obtain ⟨H3, hH3⟩ : ∃ H3, H2.set H.n (actB ((0 : Nat) : Int) a.key a.val a.n) = H3 := ⟨_, rfl⟩
    have k1 := fun K => l_nil (b := H.n) (key := a.key) (val := a.val) (n := a.n) 1 (by decide) _ H3 (by rw [← hH3]; exact set_f_eq) K
    obtain ⟨H4, hH4⟩ : ∃ H4, H3.set H.n (actB ((1 : Nat) : Int) a.key a.val a.n) = H4 := ⟨_, rfl⟩
    have k2 := fun K => l_nil (b := H.n) (key := a.key) (val := a.val) (n := a.n) 2 (by decide) _ H4 (by rw [← hH4]; exact set_f_eq) K
    obtain ⟨H5, hH5⟩ : ∃ H5, H4.set H.n (actB ((2 : Nat) : Int) a.key a.val a.n) = H5 := ⟨_, rfl⟩
    have k3 := fun K => l_nil (b := H.n) (key := a.key) (val := a.val) (n := a.n) 3 (by decide) _ H5 (by rw [← hH5]; exact set_f_eq) K
    obtain ⟨H6, hH6⟩ : ∃ H6, H5.set H.n (actB ((3 : Nat) : Int) a.key a.val a.n) = H6 := ⟨_, rfl⟩
    have f6 : H6.f H.n = .cells [.int .i64 3, .string a.key, .string a.val, .int .i64 a.n] T.law_Act true := by rw [← hH6]; exact set_f_eq
    have k4 : ∀ K : K, l_law_ExpireNil_0 (.pointer (some ⟨H.n, 0, none⟩)) (.pointer none) (.int .i64 ((3 + 1 : Nat) : Int)) H6 (blkK [1, 3] 0 K) = K .normal [(1, .pointer (some ⟨H.n, 0, none⟩)), (3, .pointer none)] H6 := fun K => by
      have : ¬ ((3 + 1 : Nat) : Int) < 4 := by decide
      rw [r_law_ExpireNil_0]
      simp (disch := first | with_reducible rfl | assumption | omega | rfl | (simp only [go_sem]; first | done | omega)) only [go_sem, ↓reduceIte, reduceCtorEq, Nat.reduceEqDiff, Nat.reduceAdd, Nat.reduceSub, Nat.reduceMul, Nat.reduceDiv, Nat.reduceMod, Nat.reduceLeDiff, Nat.reduceLT, Nat.reduceBEq, Int.reduceEq, Int.reduceBEq, Int.reduceBNe, Int.reduceLT, Int.reduceLE, Int.reduceAdd, Int.reduceSub, Int.reduceNeg, Int.reduceToNat, Int.reducePow, Nat.reducePow, Int.reduceMul, Int.reduceDiv, ↓s_law_ExpireNil_b0, this]
    have hl : ∀ K : K, l_law_ExpireNil_0 (.pointer (some ⟨H.n, 0, none⟩)) (.pointer none) (.int .i64 0) H2 (blkK [1, 3] 0 K) = K .normal [(1, .pointer (some ⟨H.n, 0, none⟩)), (3, .pointer none)] H6 := fun K => by
      have h0 := k0 (blkK [1, 3] 0 K)
      have h1 := k1 (blkK [1, 3] 0 K)
      have h2 := k2 (blkK [1, 3] 0 K)
      have h3 := k3 (blkK [1, 3] 0 K)
      rw [hH3] at h0
      rw [hH4] at h1
      rw [hH5] at h2
      rw [hH6] at h3
      exact h0.trans (h1.trans (h2.trans (h3.trans (k4 K))))
    have g := n_gets a.key H6
    have s := n_sweeps a.n H6
    have e1 := n_Now H6
    have e2 := n_Next H6
    have e3 := n_Len H6
    have e4 := n_Waiting H6
    have e5 := n_Alive H6
    have e6 := n_Copy H6
    refine any_of (H1 := H6) (d_law_ExpireNil _ H ?_)
    simp (disch := first | with_reducible rfl | assumption | omega | rfl | (simp only [go_sem]; first | done | omega)) only [go_sem, ↓reduceIte, reduceCtorEq, Nat.reduceEqDiff, Nat.reduceAdd, Nat.reduceSub, Nat.reduceMul, Nat.reduceDiv, Nat.reduceMod, Nat.reduceLeDiff, Nat.reduceLT, Nat.reduceBEq, Int.reduceEq, Int.reduceBEq, Int.reduceBNe, Int.reduceLT, Int.reduceLE, Int.reduceAdd, Int.reduceSub, Int.reduceNeg, Int.reduceToNat, Int.reducePow, Nat.reducePow, Int.reduceMul, Int.reduceDiv, ↓s_law_ExpireNil, nw, f1, bd, ↓bd, ↓enterK_eq hs, enterK_eq hs, hl, f6, ↓enterK_eq g, enterK_eq g, ↓enterK_eq s, enterK_eq s, ↓enterK_eq e1, enterK_eq e1, ↓enterK_eq e2, enterK_eq e2, ↓enterK_eq e3, enterK_eq e3, ↓enterK_eq e4, enterK_eq e4, ↓enterK_eq e5, enterK_eq e5, ↓enterK_eq e6, enterK_eq e6, e_known]

theorem run_ExpireNil (W : World) (v : Value) (a : Act) (hv : v = .agg ⟨EAct.enc a⟩) (_ : True) : ∃ k H', dCall Try.prog prims1 hints k F.law_ExpireNil [v] (absHeap2 W) = some (.bool true, H') := by
  subst hv
  obtain ⟨H', h⟩ := q_ExpireNil a (absHeap2 W)
  obtain ⟨k, h⟩ := D_run h
  exact ⟨k, _, h⟩

theorem decAct {W : World} {H : Type} {enc : TypeId × Value → H} {p : Prop} (_ : p) {cs : List Value} {n : Nat} {y : DataW H × List MemPlace} (h : DataW.trod enc Try.prog W 0 (fun _ => true) true n T.law_Act cs = some y) (hl : cs.length = EAct.w) :
    ∃ a : Act, cs.map (conv2 W.heap.size) = EAct.enc a ∧ True := by
  have ht := Try.underlying44
  obtain ⟨c0, c1, c2, c3, rfl⟩ : ∃ c0 c1 c2 c3, cs = [c0, c1, c2, c3] := by
    match cs, hl with
    | [c0, c1, c2, c3], _ => exact ⟨_, _, _, _, rfl⟩
  obtain ⟨m0, z0, h0⟩ := dec_field ht h (i := 0) rfl rfl (by kernel_rfl) rfl
  obtain ⟨m1, z1, h1⟩ := dec_field ht h (i := 1) rfl rfl (by kernel_rfl) rfl
  obtain ⟨m2, z2, h2⟩ := dec_field ht h (i := 2) rfl rfl (by kernel_rfl) rfl
  obtain ⟨m3, z3, h3⟩ := dec_field ht h (i := 3) rfl rfl (by kernel_rfl) rfl
  obtain ⟨s0, rfl, _⟩ := dec_int Try.underlying3 h0
  obtain ⟨s1, rfl, _⟩ := dec_str Try.underlying9 h1
  obtain ⟨s2, rfl, _⟩ := dec_str Try.underlying9 h2
  obtain ⟨s3, rfl, _⟩ := dec_int Try.underlying3 h3
  exact ⟨⟨s0, s1, s2, s3⟩, rfl, trivial⟩

end Go.Proofs.Ythjjkinpbpealaa

/-
  The plain map: strings compared; slices of pairs: Clone, Insert, Delete.
  Conditions: none. By an AI agent.
-/
set_option maxRecDepth 10000
set_option linter.unusedSimpArgs false
set_option linter.unusedVariables false
namespace Go.Proofs.Ythjjkinpbpealaa
open Go Eng

@[go_sem] theorem bool_ne {ox oy : Operand} {a b : Bool} : xbin Try.prog .neq T.bool ox oy (.bool a) (.bool b) = some (.bool (a != b)) := by
  cases a <;> cases b <;> kernel_rfl
@[go_sem] theorem mp_nil {ox oy : Operand} : xbin Try.prog .eql T.p_model_Model ox oy (.pointer none) (.pointer none) = some (.bool true) := by kernel_rfl
@[go_sem] theorem mp_some {ox oy : Operand} {a : Addr} : xbin Try.prog .eql T.p_model_Model ox oy (.pointer (some a)) (.pointer none) = some (.bool false) := by kernel_rfl

/-- A pair. -/
structure Pr where
  key : ByteArray
  value : ByteArray

def EPr : Enc Pr := ⟨2, fun a => [.string a.key, .string a.value], fun _ => rfl, by decide, fun _ => rfl⟩
def EStr : Enc ByteArray := ⟨1, fun a => [.string a], fun _ => rfl, by decide, fun _ => rfl⟩

/-! Comparing -/
def cmpS (a b : ByteArray) : Int := Lib.compareBytes (bl a) (bl b)

theorem q_CompareString (a b : ByteArray) (H : AHeap) : CC F.internal_bytealg_CompareString [.string a, .string b] H = some (.int .i64 (cmpS a b), H) := by
  have h : ∀ H, xext Try.prog Try.f89 [.string a, .string b] H = some (.int .i64 (cmpS a b)) := fun H => by kernel_rfl
  apply pure_of _ (d_internal_bytealg_CompareString _ _ H) rfl
  rotate_left 2
  · simp (disch := first | with_reducible rfl | assumption | omega | rfl | (simp only [go_sem]; first | done | omega)) only [go_sem, ↓reduceIte, reduceCtorEq, Nat.reduceEqDiff, Nat.reduceAdd, Nat.reduceSub, Nat.reduceMul, Nat.reduceDiv, Nat.reduceMod, Nat.reduceLeDiff, Nat.reduceLT, Nat.reduceBEq, Int.reduceEq, Int.reduceBEq, Int.reduceBNe, Int.reduceLT, Int.reduceLE, Int.reduceAdd, Int.reduceSub, Int.reduceNeg, Int.reduceToNat, Int.reducePow, Nat.reducePow, Int.reduceMul, Int.reduceDiv, ↓s_internal_bytealg_CompareString, h]
    rfl
  · (repeat (first | exact Fr.refl _ | refine Fr.push ?_ _ | refine Fr.set ?_ _ _ (by intro h; first | omega | (simp only [go_sem] at h; omega))))
@[go_sem, go_sem ↓] theorem e_CompareString (a b : ByteArray) (H : AHeap) {k : Value → AHeap → Res} : enterK CC F.internal_bytealg_CompareString [.string a, .string b] H k = k (.int .i64 (cmpS a b)) H := enterK_eq (q_CompareString a b H)
theorem q_SCompare (a b : ByteArray) (H : AHeap) : CC F.strings_Compare [.string a, .string b] H = some (.int .i64 (cmpS a b), H) := by
  apply pure_of _ (d_strings_Compare _ _ H) rfl
  rotate_left 2
  · simp (disch := first | with_reducible rfl | assumption | omega | rfl | (simp only [go_sem]; first | done | omega)) only [go_sem, ↓reduceIte, reduceCtorEq, Nat.reduceEqDiff, Nat.reduceAdd, Nat.reduceSub, Nat.reduceMul, Nat.reduceDiv, Nat.reduceMod, Nat.reduceLeDiff, Nat.reduceLT, Nat.reduceBEq, Int.reduceEq, Int.reduceBEq, Int.reduceBNe, Int.reduceLT, Int.reduceLE, Int.reduceAdd, Int.reduceSub, Int.reduceNeg, Int.reduceToNat, Int.reducePow, Nat.reducePow, Int.reduceMul, Int.reduceDiv, ↓s_strings_Compare, e_CompareString]
    rfl
  · (repeat (first | exact Fr.refl _ | refine Fr.push ?_ _ | refine Fr.set ?_ _ _ (by intro h; first | omega | (simp only [go_sem] at h; omega))))
@[go_sem, go_sem ↓] theorem e_SCompare (a b : ByteArray) (H : AHeap) {k : Value → AHeap → Res} : enterK CC F.strings_Compare [.string a, .string b] H k = k (.int .i64 (cmpS a b)) H := enterK_eq (q_SCompare a b H)
theorem q_KCompare (a b : ByteArray) (H : AHeap) : CC F.keys_Compare [.string a, .string b] H = some (.int .i64 (cmpS a b), H) := by
  apply pure_of _ (d_keys_Compare _ _ H) rfl
  rotate_left 2
  · simp (disch := first | with_reducible rfl | assumption | omega | rfl | (simp only [go_sem]; first | done | omega)) only [go_sem, ↓reduceIte, reduceCtorEq, Nat.reduceEqDiff, Nat.reduceAdd, Nat.reduceSub, Nat.reduceMul, Nat.reduceDiv, Nat.reduceMod, Nat.reduceLeDiff, Nat.reduceLT, Nat.reduceBEq, Int.reduceEq, Int.reduceBEq, Int.reduceBNe, Int.reduceLT, Int.reduceLE, Int.reduceAdd, Int.reduceSub, Int.reduceNeg, Int.reduceToNat, Int.reducePow, Nat.reducePow, Int.reduceMul, Int.reduceDiv, ↓s_keys_Compare, e_SCompare]
    rfl
  · (repeat (first | exact Fr.refl _ | refine Fr.push ?_ _ | refine Fr.set ?_ _ _ (by intro h; first | omega | (simp only [go_sem] at h; omega))))
@[go_sem, go_sem ↓] theorem e_KCompare (a b : ByteArray) (H : AHeap) {k : Value → AHeap → Res} : enterK CC F.keys_Compare [.string a, .string b] H k = k (.int .i64 (cmpS a b)) H := enterK_eq (q_KCompare a b H)

@[go_sem] theorem sl_nil_Pair {ox oy : Operand} : xbin Try.prog .eql T.sl_api_Pair ox oy (.slice none 0 0) (.slice none 0 0) = some (.bool true) := by kernel_rfl
@[go_sem] theorem sl_some_Pair {ox oy : Operand} {a : Addr} {n c : Nat} : xbin Try.prog .eql T.sl_api_Pair ox oy (.slice (some a) n c) (.slice none 0 0) = some (.bool false) := by kernel_rfl

theorem q_clone_Pair (l : List Pr) (v : Value) (H : AHeap) (hr : Rd EPr H v l) (hl : l.length ≤ 1000000000000) :
    ∃ v' H', CC F.slices_Clone_Pair [v] H = some (v', H') ∧ Own EPr H' T.api_Pair v' l ∧ Still H H' ∧ ∀ b, blockOf v' = some b → H.n ≤ b := by
  have hsrc : ∀ H1, Still H H1 → srcS 2 v H1 = some (l.length, EPr.cells l) := fun H1 h => (hr.still h).src rfl
  have s1 : Still H (H.push (.cells [] T.api_Pair true)) := (Fr.refl H).push _
  have hs := hsrc _ s1
  by_cases hn : v = .slice none 0 0
  · have hl0 : l = [] := by
      rcases hr with h | h | ⟨b, o, c, h, _⟩
      · exact h.1
      · exact h.1
      · rw [hn] at h; cases h
    subst hn hl0
    refine ⟨.slice none 0 0, H, ?_, .inl ⟨rfl, rfl⟩, Fr.refl H, fun b h => by cases h⟩
    apply pure_of _ (d_slices_Clone_Pair _ H) rfl
    rotate_left 2
    · simp (disch := first | with_reducible rfl | assumption | omega | rfl | (simp only [go_sem]; first | done | omega)) only [go_sem, ↓reduceIte, reduceCtorEq, Nat.reduceEqDiff, Nat.reduceAdd, Nat.reduceSub, Nat.reduceMul, Nat.reduceDiv, Nat.reduceMod, Nat.reduceLeDiff, Nat.reduceLT, Nat.reduceBEq, Int.reduceEq, Int.reduceBEq, Int.reduceBNe, Int.reduceLT, Int.reduceLE, Int.reduceAdd, Int.reduceSub, Int.reduceNeg, Int.reduceToNat, Int.reducePow, Nat.reducePow, Int.reduceMul, Int.reduceDiv, ↓s_slices_Clone_Pair]
      rfl
    · (repeat (first | exact Fr.refl _ | refine Fr.push ?_ _ | refine Fr.set ?_ _ _ (by intro h; first | omega | (simp only [go_sem] at h; omega))))
  · obtain ⟨a, n, c, hv⟩ : ∃ a n c, v = .slice (some a) n c := by
      rcases hr with h | ⟨_, a, k, h, _⟩ | ⟨b, o, c, h, _⟩
      · exact absurd h.2 hn
      · exact ⟨_, _, _, h⟩
      · exact ⟨_, _, _, h⟩
    have hnil : ∀ ox oy, xbin Try.prog .eql T.sl_api_Pair ox oy v (.slice none 0 0) = some (.bool false) := fun ox oy => by rw [hv]; exact sl_some_Pair
    have ho : Own EPr (H.push (.cells [] T.api_Pair true)) T.api_Pair (.slice (some ⟨H.n, 0, none⟩) 0 0) [] := .inr (.inl ⟨rfl, _, rfl, rfl, by simp⟩)
    by_cases hl0 : l = []
    · subst hl0
      refine ⟨.slice (some ⟨H.n, 0, none⟩) 0 0, H.push (.cells [] T.api_Pair true), ?_, ho, s1, fun b h => by cases h; exact Nat.le_refl _⟩
      have happ : app T.api_Pair 2 32 (.slice (some ⟨H.n, 0, none⟩) 0 0) (srcS 2 v (H.push (.cells [] T.api_Pair true))) (H.push (.cells [] T.api_Pair true)) = some (.slice (some ⟨H.n, 0, none⟩) 0 0, H.push (.cells [] T.api_Pair true)) := by rw [hs]; rfl
      refine (d_slices_Clone_Pair _ H ?_).trans (congrArg some (tidy_mem (v := .slice (some ⟨H.n, 0, none⟩) 0 0) (H' := H.push (.cells [] T.api_Pair true)) rfl))
      simp (disch := first | with_reducible rfl | assumption | omega | rfl | (simp only [go_sem]; first | done | omega)) only [go_sem, ↓reduceIte, reduceCtorEq, Nat.reduceEqDiff, Nat.reduceAdd, Nat.reduceSub, Nat.reduceMul, Nat.reduceDiv, Nat.reduceMod, Nat.reduceLeDiff, Nat.reduceLT, Nat.reduceBEq, Int.reduceEq, Int.reduceBEq, Int.reduceBNe, Int.reduceLT, Int.reduceLE, Int.reduceAdd, Int.reduceSub, Int.reduceNeg, Int.reduceToNat, Int.reducePow, Nat.reducePow, Int.reduceMul, Int.reduceDiv, ↓s_slices_Clone_Pair, hnil, happ]
    · obtain ⟨v', H', happ, hown, hfr, hb, hg⟩ := ho.app (m := l) hl0 (sz := 2) (bytes := 32) rfl (by simp; omega) (by simp; omega) hs
      refine ⟨v', H', ?_, hown, ?_, ?_⟩
      · refine (d_slices_Clone_Pair _ H ?_).trans (congrArg some (tidy_mem (v := v') (H' := H') hg))
        simp (disch := first | with_reducible rfl | assumption | omega | rfl | (simp only [go_sem]; first | done | omega)) only [go_sem, ↓reduceIte, reduceCtorEq, Nat.reduceEqDiff, Nat.reduceAdd, Nat.reduceSub, Nat.reduceMul, Nat.reduceDiv, Nat.reduceMod, Nat.reduceLeDiff, Nat.reduceLT, Nat.reduceBEq, Int.reduceEq, Int.reduceBEq, Int.reduceBNe, Int.reduceLT, Int.reduceLE, Int.reduceAdd, Int.reduceSub, Int.reduceNeg, Int.reduceToNat, Int.reducePow, Nat.reducePow, Int.reduceMul, Int.reduceDiv, ↓s_slices_Clone_Pair, hnil, happ]
      · refine s1.then hfr fun b hb h => ?_
        unfold OnlyOf at h
        simp [blockOf] at h
        omega
      · intro b h
        rcases hb with hb | hb
        · rw [hb] at h
          simp [blockOf] at h
          omega
        · rw [hb] at h
          simp at h
          omega

/-! ### Insert -/
theorem ins_loop_Pair : noLoop (codeOf Try.prog hints F.slices_Insert_Pair) = true := by kernel_rfl

theorem q_insert_Pair (l : List Pr) (v : Value) (a : Pr) (bv i : Nat) (H : AHeap) (hr : Own EPr H T.api_Pair v l) (hl : l.length ≤ 1000000000000) (hi : i ≤ l.length) (hbn : bv < H.n) (hbv : H.f bv = .cells [.string a.key, .string a.value] T.api_Pair true) (hne : blockOf v ≠ some bv) :
    ∃ v' H', CC F.slices_Insert_Pair [v, .int .i64 (i : Int), .slice (some ⟨bv, 0, none⟩) 1 2] H = some (v', H') ∧ Own EPr H' T.api_Pair v' (l.take i ++ a :: l.drop i) ∧ Fr (OnlyOf v) H H' ∧
      (blockOf v' = blockOf v ∨ ∃ b, blockOf v' = some b ∧ H.n ≤ b) := by
  have hp : prims1 F.slices_Insert_Pair = some (insP Try.prog hints 56 47 zIns0) := by kernel_rfl
  have hsrc : srcS 2 (.slice (some ⟨bv, 0, none⟩) 1 2) H = some ([a].length, EPr.cells [a]) := by
    unfold srcS
    simp only [cut_b, hbv, Nat.one_ne_zero, if_false]
    rfl
  by_cases hin : i = l.length
  · subst hin
    obtain ⟨v', H', happ, hown, hfr, hb, hg⟩ := hr.app (m := [a]) (by simp) (sz := 2) (bytes := 32) rfl (by simp; omega) (by simp; omega) hsrc
    obtain ⟨w, hw, _, _⟩ := hr.drop (sz := 2) (q := .i64) rfl (Nat.le_refl l.length)
    have hlen := hr.rd.lenS
    refine ⟨v', H', ?_, by simpa using hown, hfr, hb.imp id fun h => ⟨_, h, Nat.le_refl _⟩⟩
    refine D_prim hp ?_
    have hbody : dBody Try.prog hints (fun _ _ _ => none) 1 F.slices_Insert_Pair [v, .int .i64 (l.length : Int), .slice (some ⟨bv, 0, none⟩) 1 2] H = some (v', H') := by
      rw [dBody_noLoop ins_loop_Pair, s_slices_Insert_Pair_eq]
      show s_slices_Insert_Pair guardK condL shareL Try.prog _ _ _ _ H _ = _
      simp (disch := first | with_reducible rfl | assumption | omega | rfl | (simp only [go_sem]; first | done | omega)) only [go_sem, ↓reduceIte, reduceCtorEq, Nat.reduceEqDiff, Nat.reduceAdd, Nat.reduceSub, Nat.reduceMul, Nat.reduceDiv, Nat.reduceMod, Nat.reduceLeDiff, Nat.reduceLT, Nat.reduceBEq, Int.reduceEq, Int.reduceBEq, Int.reduceBNe, Int.reduceLT, Int.reduceLE, Int.reduceAdd, Int.reduceSub, Int.reduceNeg, Int.reduceToNat, Int.reducePow, Nat.reducePow, Int.reduceMul, Int.reduceDiv, ↓s_slices_Insert_Pair, hw, hlen, happ]
    show (match dBody Try.prog hints (fun _ _ _ => none) 1 F.slices_Insert_Pair [v, .int .i64 (l.length : Int), .slice (some ⟨bv, 0, none⟩) 1 2] H with
      | some r => some r
      | none => _) = _
    rw [hbody]
  · have hilt : i < l.length := by omega
    rcases hr with ⟨h, _⟩ | ⟨h, _⟩ | ⟨b, o, c, xs, rfl, hlc, hb, hf, ho, hx⟩
    · subst h; simp at hilt
    · subst h; simp at hilt
    · have hneb : bv ≠ b := fun h => hne (by rw [h]; rfl)
      obtain ⟨v', H', hins, hown, hfr, hbl⟩ := insS_own (P := Try.prog) (E := EPr) (l := l) (el := T.api_Pair) (z := zIns0) (b := b) (o := o) (c := c) (i := i) (bv := bv) (ov := 0) (cv := 2) (m := [a]) rfl rfl hlc hb hf ho hx hilt (by simp) hbv hneb (by kernel_rfl) (show 0 + 1 * 2 ≤ 2 by decide) rfl
        (by rw [show Try.prog.bytesOf T.api_Pair = 32 by kernel_rfl]; simp; omega) (by simp; omega)
      refine ⟨v', H', ?_, hown, hfr.mono fun x _ h => by rw [h]; rfl, hbl.imp id fun h => ⟨_, h, Nat.le_refl _⟩⟩
      refine D_prim hp ?_
      have hlo : slS T.api_Pair 2 (.slice (some ⟨b, o, none⟩) l.length (2 * c + 1)) (some (.int .i64 (i : Int))) none none H = some (.slice (some ⟨b, o + i * 2, none⟩) (l.length - i) (2 * (c - i) + 1)) := sl_lo hf hi hlc
      have hne' : ¬ (i : Int) = (l.length : Int) := by omega
      have hbody : dBody Try.prog hints (fun _ _ _ => none) 1 F.slices_Insert_Pair [.slice (some ⟨b, o, none⟩) l.length (2 * c + 1), .int .i64 (i : Int), .slice (some ⟨bv, 0, none⟩) 1 2] H = none := by
        rw [dBody_noLoop ins_loop_Pair, s_slices_Insert_Pair_eq]
        show s_slices_Insert_Pair guardK condL shareL Try.prog _ _ _ _ H _ = _
        simp (disch := first | with_reducible rfl | assumption | omega | rfl | (simp only [go_sem]; first | done | omega)) only [go_sem, ↓reduceIte, reduceCtorEq, Nat.reduceEqDiff, Nat.reduceAdd, Nat.reduceSub, Nat.reduceMul, Nat.reduceDiv, Nat.reduceMod, Nat.reduceLeDiff, Nat.reduceLT, Nat.reduceBEq, Int.reduceEq, Int.reduceBEq, Int.reduceBNe, Int.reduceLT, Int.reduceLE, Int.reduceAdd, Int.reduceSub, Int.reduceNeg, Int.reduceToNat, Int.reducePow, Nat.reducePow, Int.reduceMul, Int.reduceDiv, ↓s_slices_Insert_Pair, hlo, hne', cap_odd]
      show (match dBody Try.prog hints (fun _ _ _ => none) 1 F.slices_Insert_Pair [.slice (some ⟨b, o, none⟩) l.length (2 * c + 1), .int .i64 (i : Int), .slice (some ⟨bv, 0, none⟩) 1 2] H with
        | some r => some r
        | none => _) = _
      rw [hbody]
      exact hins

/-! ### Delete -/
theorem zrow_Pair : zrow Try.prog T.api_Pair = some [.string (mk []), .string (mk [])] := by kernel_rfl
theorem clear_Pair {b o n c : Nat} {H : AHeap} (hn : n ≠ 0) : xclear Try.prog [T.sl_api_Pair] (.slice (some ⟨b, o, none⟩) n c) H = (setB H b (wrL (H.f b) o (zeros [.string (mk []), .string (mk [])] n))).map fun H' => (.tuple #[], H') := by
  have h : Try.prog.underlying T.sl_api_Pair = some (.slice T.api_Pair) := Try.underlying24
  unfold xclear
  simp only [h, hn, if_false, zrow_Pair, Option.bind_some, stL_b]

theorem q_delete_Pair (l : List Pr) (v : Value) (i : Nat) (H : AHeap) (hr : Own EPr H T.api_Pair v l) (hl : l.length ≤ 1000000000000) (hi : i < l.length) :
    ∃ v' H', CC F.slices_Delete_Pair [v, .int .i64 (i : Int), .int .i64 ((i : Int) + 1)] H = some (v', H') ∧ Own EPr H' T.api_Pair v' (l.take i ++ l.drop (i + 1)) ∧ Fr (OnlyOf v) H H' ∧ blockOf v' = blockOf v := by
  rcases hr with ⟨h, _⟩ | ⟨h, _⟩ | ⟨b, o, c, xs, rfl, hlc, hb, hf, ho, hx⟩
  · subst h; simp at hi
  · subst h; simp at hi
  · have hw : EPr.w = 2 := rfl
    rw [hw] at ho hx
    have hne : ¬ (i : Int) = (i : Int) + 1 := by omega
    have hmul : l.length * 2 ≤ c * 2 := Nat.mul_le_mul_right _ hlc
    have e1 : slS T.api_Pair 2 (.slice (some ⟨b, o, none⟩) l.length (2 * c + 1)) (some (.int .i64 (i : Int))) (some (.int .i64 ((i : Int) + 1))) (some (.int .i64 (l.length : Int))) H = some (.slice (some ⟨b, if l.length = i then o else o + i * 2, none⟩) (i + 1 - i) (2 * (l.length - i))) :=
      sl_three (H := H) (e := T.api_Pair) (sz := 2) (i := i) (j := i + 1) (by omega) hi hlc
    have e2 : slS T.api_Pair 2 (.slice (some ⟨b, o, none⟩) l.length (2 * c + 1)) none (some (.int .i64 (i : Int))) none H = some (.slice (some ⟨b, o, none⟩) i (2 * c + 1)) := sl_hi hf (by omega)
    have e3 : slS T.api_Pair 2 (.slice (some ⟨b, o, none⟩) l.length (2 * c + 1)) (some (.int .i64 ((i : Int) + 1))) none none H = some (.slice (some ⟨b, o + (i + 1) * 2, none⟩) (l.length - (i + 1)) (2 * (c - (i + 1)) + 1)) :=
      sl_lo (H := H) (e := T.api_Pair) (sz := 2) (i := i + 1) hf hi hlc
    -- what is appended
    obtain ⟨ys, hys, e4⟩ : ∃ ys, ys = spl xs (o + i * 2) (EPr.cells (l.drop (i + 1))) ∧ app T.api_Pair 2 32 (.slice (some ⟨b, o, none⟩) i (2 * c + 1)) (srcS 2 (.slice (some ⟨b, o + (i + 1) * 2, none⟩) (l.length - (i + 1)) (2 * (c - (i + 1)) + 1)) H) H =
        some (.slice (some ⟨b, o, none⟩) (l.length - 1) (2 * c + 1), if l.length = i + 1 then H else H.set b (.cells ys T.api_Pair true)) := by
      refine ⟨_, rfl, ?_⟩
      have hsrc : srcS 2 (.slice (some ⟨b, o + (i + 1) * 2, none⟩) (l.length - (i + 1)) (2 * (c - (i + 1)) + 1)) H = some (l.length - (i + 1), EPr.cells (l.drop (i + 1))) := by
        unfold srcS
        by_cases h0 : l.length - (i + 1) = 0
        · rw [List.drop_eq_nil_of_le (by omega)]
          simp only [h0, if_true]
          rfl
        · simp only [h0, if_false, cut_b, hf]
          have hd : (xs.drop (o + (i + 1) * 2)).take ((l.length - (i + 1)) * 2) = EPr.cells (l.drop (i + 1)) := by
            have := EPr.cells_drop l (i + 1)
            rw [hw] at this
            rw [← this, ← hx, List.drop_take, List.drop_drop, Nat.sub_mul]
          rw [cutB_c (by omega), hd]
          rfl
      rw [hsrc]
      by_cases h0 : l.length = i + 1
      · rw [if_pos h0]
        unfold app
        simp only [Option.bind_some, show l.length - (i + 1) = 0 by omega, if_true]
        rw [show l.length - 1 = i by omega]
      · rw [if_neg h0]
        unfold app
        have hlen : (EPr.cells (l.drop (i + 1))).length = (l.length - (i + 1)) * 2 := by rw [EPr.cells_len, List.length_drop, hw]
        simp only [Option.bind_some, show ¬ l.length - (i + 1) = 0 by omega, if_false, show ¬ ((i + (l.length - (i + 1))) * 32 > 140737488355328 ∨ i + (l.length - (i + 1)) > 140737488355328) by omega, show i + (l.length - (i + 1)) ≤ (2 * c + 1) / 2 by omega, if_true, stL_b, hf]
        rw [wrL_c (by rw [hlen]; omega) (EPr.cells_one _), setB_s]
        simp only [Option.map_some]
        rw [show i + (l.length - (i + 1)) = l.length - 1 by omega]
    have hysl : ys.length = xs.length := by rw [hys, spl_length]
    generalize hH1 : (if l.length = i + 1 then H else H.set b (.cells ys T.api_Pair true)) = H1 at e4
    obtain ⟨zs, hzs, hzl, f1⟩ : ∃ zs, (zs = ys) ∧ zs.length = xs.length ∧ H1.f b = .cells zs T.api_Pair true := by
      rw [← hH1]
      by_cases h0 : l.length = i + 1
      · rw [if_pos h0]
        refine ⟨xs, ?_, rfl, hf⟩
        rw [hys, List.drop_eq_nil_of_le (by omega)]
        rfl
      · rw [if_neg h0]
        exact ⟨ys, rfl, hysl, set_f_eq⟩
    subst hzs
    have fr1 : Fr (OnlyOf (.slice (some ⟨b, o, none⟩) l.length (2 * c + 1))) H H1 := by
      rw [← hH1]
      split
      · exact Fr.refl _
      · exact Fr.set (Fr.refl _) _ _ fun _ => rfl
    have e5 : slS T.api_Pair 2 (.slice (some ⟨b, o, none⟩) (l.length - 1) (2 * c + 1)) (some (.int .i64 ((l.length - 1 : Nat) : Int))) (some (.int .i64 (l.length : Int))) none H1 = some (.slice (some ⟨b, o + (l.length - 1) * 2, none⟩) (l.length - (l.length - 1)) (2 * (c - (l.length - 1)) + 1)) := sl_lohi f1 (by omega) hlc
    have e6 : l.length - (l.length - 1) = 1 := by omega
    have hn1 : b < H1.n := Nat.lt_of_lt_of_le hb fr1.n
    refine ⟨.slice (some ⟨b, o, none⟩) (l.length - 1) (2 * c + 1), H1.set b (.cells (spl zs (o + (l.length - 1) * 2) [.string (mk []), .string (mk [])]) T.api_Pair true), ?_, ?_, Fr.set fr1 _ _ fun _ => rfl, rfl⟩
    · refine (d_slices_Delete_Pair _ _ _ H (r := (.slice (some ⟨b, o, none⟩) (l.length - 1) (2 * c + 1), _)) ?_).trans (congrArg some (tidy_mem rfl))
      simp (disch := first | with_reducible rfl | assumption | omega | rfl | (simp only [go_sem]; first | done | omega)) only [go_sem, ↓reduceIte, reduceCtorEq, Nat.reduceEqDiff, Nat.reduceAdd, Nat.reduceSub, Nat.reduceMul, Nat.reduceDiv, Nat.reduceMod, Nat.reduceLeDiff, Nat.reduceLT, Nat.reduceBEq, Int.reduceEq, Int.reduceBEq, Int.reduceBNe, Int.reduceLT, Int.reduceLE, Int.reduceAdd, Int.reduceSub, Int.reduceNeg, Int.reduceToNat, Int.reducePow, Nat.reducePow, Int.reduceMul, Int.reduceDiv, ↓s_slices_Delete_Pair, e1, hne, e2, e3, e4]
      rw [e5, e6]
      simp (disch := first | with_reducible rfl | assumption | omega | rfl | (simp only [go_sem]; first | done | omega)) only [go_sem, ↓reduceIte, reduceCtorEq, Nat.reduceEqDiff, Nat.reduceAdd, Nat.reduceSub, Nat.reduceMul, Nat.reduceDiv, Nat.reduceMod, Nat.reduceLeDiff, Nat.reduceLT, Nat.reduceBEq, Int.reduceEq, Int.reduceBEq, Int.reduceBNe, Int.reduceLT, Int.reduceLE, Int.reduceAdd, Int.reduceSub, Int.reduceNeg, Int.reduceToNat, Int.reducePow, Nat.reducePow, Int.reduceMul, Int.reduceDiv, clear_Pair, f1]
    · have hlen2 : (l.take i ++ l.drop (i + 1)).length = l.length - 1 := by simp; omega
      refine .inr (.inr ⟨b, o, c, _, by rw [hlen2], by rw [hlen2]; omega, by simpa using hn1, set_f_eq, by rw [spl_length, hzl, hw, ho], ?_⟩)
      rw [hys]
      have := del_cells (E := EPr) (xs := xs) (z := [.string (mk []), .string (mk [])]) (o := o) (i := i) rfl hi (by rw [hw]; omega) (by rw [hw]; exact hx)
      exact this



end Go.Proofs.Ythjjkinpbpealaa

/-
  The plain map: where a key is, the check of a key and values.
  Conditions: none. By an AI agent.
-/
set_option maxRecDepth 10000
set_option linter.unusedSimpArgs false
set_option linter.unusedVariables false
namespace Go.Proofs.Ythjjkinpbpealaa
open Go Eng

theorem q_place_1 (a : Pr) (key : ByteArray) (H : AHeap) : CC F.model_Model_place_1 [.agg #[.string a.key, .string a.value], .string key] H = some (.int .i64 (cmpS a.key key), H) := by
  apply pure_of _ (d_model_Model_place_1 _ _ H) rfl
  rotate_left 2
  · simp (disch := first | with_reducible rfl | assumption | omega | rfl | (simp only [go_sem]; first | done | omega)) only [go_sem, ↓reduceIte, reduceCtorEq, Nat.reduceEqDiff, Nat.reduceAdd, Nat.reduceSub, Nat.reduceMul, Nat.reduceDiv, Nat.reduceMod, Nat.reduceLeDiff, Nat.reduceLT, Nat.reduceBEq, Int.reduceEq, Int.reduceBEq, Int.reduceBNe, Int.reduceLT, Int.reduceLE, Int.reduceAdd, Int.reduceSub, Int.reduceNeg, Int.reduceToNat, Int.reducePow, Nat.reducePow, Int.reduceMul, Int.reduceDiv, ↓s_model_Model_place_1, e_KCompare]
    rfl
  · (repeat (first | exact Fr.refl _ | refine Fr.push ?_ _ | refine Fr.set ?_ _ _ (by intro h; first | omega | (simp only [go_sem] at h; omega))))
@[go_sem, go_sem ↓] theorem e_place_1 (a : Pr) (key : ByteArray) (H : AHeap) {k : Value → AHeap → Res} : enterK CC F.model_Model_place_1 [.agg #[.string a.key, .string a.value], .string key] H k = k (.int .i64 (cmpS a.key key)) H := enterK_eq (q_place_1 a key H)

/-- p is where a key is, or would be. -/
def PosP (l : List Pr) (key : ByteArray) (p : Nat) : Prop :=
  p ≤ l.length ∧ (∀ (i : Nat) (h : i < l.length), i < p → cmpS l[i].key key < 0) ∧ (∀ (i : Nat) (h : i < l.length), p ≤ i → ¬ cmpS l[i].key key < 0)

/-- Is the key there? -/
def isP (l : List Pr) (key : ByteArray) (p : Nat) : Bool := match l[p]? with | some a => decide (cmpS a.key key = 0) | none => false

theorem l_bsP (l : List Pr) (v : Value) (key : ByteArray) (H : AHeap) (hr : Rd EPr H v l) (hl : l.length < 1152921504606846976)
    (p : Nat) (hp1 : ∀ (i : Nat) (h : i < l.length), i < p → cmpS l[i].key key < 0) (hp2 : ∀ (i : Nat) (h : i < l.length), p ≤ i → ¬ cmpS l[i].key key < 0) (K : K) : ∀ (d i j : Nat), j - i = d → i ≤ p → p ≤ j → j ≤ l.length →
    l_slices_BinarySearchFunc_string_0 v (.string key) (.func (.func F.model_Model_place_1) #[] #[]) (.int .i64 l.length) (.int .i64 i) (.int .i64 j) H K
      = K (.exit 0) [(17, .bool false), (16, .int .i64 p), (15, .int .i64 p), (0, v), (1, .string key), (2, .func (.func F.model_Model_place_1) #[] #[]), (8, .int .i64 l.length), (9, .int .i64 p), (10, .int .i64 p)] H := by
  intro d
  induction d using Nat.strongRecOn with
  | ind d ih =>
    intro i j hd hi hj hn
    by_cases hlt : i < j
    · have hlt' : (i : Int) < (j : Int) := by omega
      have hm : ((i : Int) + (j : Int)) / 2 = (((i + j) / 2 : Nat) : Int) := by omega
      generalize hh : (i + j) / 2 = m at hm
      have hm1 : i ≤ m := by omega
      have hm2 : m < j := by omega
      have hml : m < l.length := by omega
      obtain ⟨b, o, hix, hb, hc, _⟩ := hr.ix (q := .i64) hml
      have hix : ixS 2 v (.int .i64 m) = some (.pointer (some ⟨b, o, none⟩)) := hix
      have hc : cutB (H.f b) o 2 = some [.string l[m].key, .string l[m].value] := hc
      rw [r_slices_BinarySearchFunc_string_0]
      by_cases hp : m < p
      · have hcmp : decide (cmpS l[m].key key < 0) = true := decide_eq_true (hp1 m hml hp)
        have ih := ih (j - (m + 1)) (by omega) (m + 1) j rfl (by omega) hj hn
        rw [Int.natCast_add] at ih
        simp (disch := first | with_reducible rfl | assumption | omega | rfl | (simp only [go_sem]; first | done | omega)) only [go_sem, ↓reduceIte, reduceCtorEq, Nat.reduceEqDiff, Nat.reduceAdd, Nat.reduceSub, Nat.reduceMul, Nat.reduceDiv, Nat.reduceMod, Nat.reduceLeDiff, Nat.reduceLT, Nat.reduceBEq, Int.reduceEq, Int.reduceBEq, Int.reduceBNe, Int.reduceLT, Int.reduceLE, Int.reduceAdd, Int.reduceSub, Int.reduceNeg, Int.reduceToNat, Int.reducePow, Nat.reducePow, Int.reduceMul, Int.reduceDiv, ↓s_slices_BinarySearchFunc_string_b0, hlt', hm, hix, hc, c_model_Model_place_1, e_place_1, hcmp]
        exact ih
      · have hcmp : decide (cmpS l[m].key key < 0) = false := decide_eq_false (hp2 m hml (by omega))
        have ih := ih (m - i) (by omega) i m rfl hi (by omega) (by omega)
        simp (disch := first | with_reducible rfl | assumption | omega | rfl | (simp only [go_sem]; first | done | omega)) only [go_sem, ↓reduceIte, reduceCtorEq, Nat.reduceEqDiff, Nat.reduceAdd, Nat.reduceSub, Nat.reduceMul, Nat.reduceDiv, Nat.reduceMod, Nat.reduceLeDiff, Nat.reduceLT, Nat.reduceBEq, Int.reduceEq, Int.reduceBEq, Int.reduceBNe, Int.reduceLT, Int.reduceLE, Int.reduceAdd, Int.reduceSub, Int.reduceNeg, Int.reduceToNat, Int.reducePow, Nat.reducePow, Int.reduceMul, Int.reduceDiv, ↓s_slices_BinarySearchFunc_string_b0, hlt', hm, hix, hc, c_model_Model_place_1, e_place_1, hcmp]
        exact ih
    · have hip : i = p := by omega
      have hjp : j = p := by omega
      subst hip
      subst hjp
      have hlt' : ¬ (j : Int) < (j : Int) := by omega
      rw [r_slices_BinarySearchFunc_string_0]
      simp (disch := first | with_reducible rfl | assumption | omega | rfl | (simp only [go_sem]; first | done | omega)) only [go_sem, ↓reduceIte, reduceCtorEq, Nat.reduceEqDiff, Nat.reduceAdd, Nat.reduceSub, Nat.reduceMul, Nat.reduceDiv, Nat.reduceMod, Nat.reduceLeDiff, Nat.reduceLT, Nat.reduceBEq, Int.reduceEq, Int.reduceBEq, Int.reduceBNe, Int.reduceLT, Int.reduceLE, Int.reduceAdd, Int.reduceSub, Int.reduceNeg, Int.reduceToNat, Int.reducePow, Nat.reducePow, Int.reduceMul, Int.reduceDiv, ↓s_slices_BinarySearchFunc_string_b0, hlt']

theorem q_bsP (l : List Pr) (v : Value) (key : ByteArray) (H : AHeap) (hr : Rd EPr H v l) (hl : l.length < 1152921504606846976) (p : Nat) (hp : PosP l key p) :
    CC F.slices_BinarySearchFunc_string [v, .string key, .func (.func F.model_Model_place_1) #[] #[]] H = some (.tuple #[.int .i64 p, .bool (isP l key p)], H) := by
  obtain ⟨hpl, hp1, hp2⟩ := hp
  have hlen := hr.lenS
  have hloop := l_bsP l v key H hr hl p hp1 hp2
  have hz : Value.int IntKind.i64 0 = Value.int IntKind.i64 ((0 : Nat) : Int) := rfl
  by_cases hlt : p < l.length
  · obtain ⟨b, o, hix, hb, hc, _⟩ := hr.ix (q := .i64) hlt
    have hix : ixS 2 v (.int .i64 p) = some (.pointer (some ⟨b, o, none⟩)) := hix
    have hc : cutB (H.f b) o 2 = some [.string l[p].key, .string l[p].value] := hc
    have hlt' : (p : Int) < (l.length : Int) := by omega
    have his : isP l key p = decide (cmpS l[p].key key = 0) := by unfold isP; rw [List.getElem?_eq_getElem hlt]
    rw [his]
    apply pure_of _ (d_slices_BinarySearchFunc_string _ _ _ H) rfl
    rotate_left 2
    · simp (disch := first | with_reducible rfl | assumption | omega | rfl | (simp only [go_sem]; first | done | omega)) only [go_sem, ↓reduceIte, reduceCtorEq, Nat.reduceEqDiff, Nat.reduceAdd, Nat.reduceSub, Nat.reduceMul, Nat.reduceDiv, Nat.reduceMod, Nat.reduceLeDiff, Nat.reduceLT, Nat.reduceBEq, Int.reduceEq, Int.reduceBEq, Int.reduceBNe, Int.reduceLT, Int.reduceLE, Int.reduceAdd, Int.reduceSub, Int.reduceNeg, Int.reduceToNat, Int.reducePow, Nat.reducePow, Int.reduceMul, Int.reduceDiv, ↓s_slices_BinarySearchFunc_string, hlen]
      rw [hz, hloop _ (l.length - 0) 0 l.length rfl (by omega) hpl (by omega)]
      simp (disch := first | with_reducible rfl | assumption | omega | rfl | (simp only [go_sem]; first | done | omega)) only [go_sem, ↓reduceIte, reduceCtorEq, Nat.reduceEqDiff, Nat.reduceAdd, Nat.reduceSub, Nat.reduceMul, Nat.reduceDiv, Nat.reduceMod, Nat.reduceLeDiff, Nat.reduceLT, Nat.reduceBEq, Int.reduceEq, Int.reduceBEq, Int.reduceBNe, Int.reduceLT, Int.reduceLE, Int.reduceAdd, Int.reduceSub, Int.reduceNeg, Int.reduceToNat, Int.reducePow, Nat.reducePow, Int.reduceMul, Int.reduceDiv, hlt', hix, hc, c_model_Model_place_1, e_place_1]
      rfl
    · (repeat (first | exact Fr.refl _ | refine Fr.push ?_ _ | refine Fr.set ?_ _ _ (by intro h; first | omega | (simp only [go_sem] at h; omega))))
  · have hlt' : ¬ (p : Int) < (l.length : Int) := by omega
    have his : isP l key p = false := by unfold isP; rw [List.getElem?_eq_none (by omega)]
    rw [his]
    apply pure_of _ (d_slices_BinarySearchFunc_string _ _ _ H) rfl
    rotate_left 2
    · simp (disch := first | with_reducible rfl | assumption | omega | rfl | (simp only [go_sem]; first | done | omega)) only [go_sem, ↓reduceIte, reduceCtorEq, Nat.reduceEqDiff, Nat.reduceAdd, Nat.reduceSub, Nat.reduceMul, Nat.reduceDiv, Nat.reduceMod, Nat.reduceLeDiff, Nat.reduceLT, Nat.reduceBEq, Int.reduceEq, Int.reduceBEq, Int.reduceBNe, Int.reduceLT, Int.reduceLE, Int.reduceAdd, Int.reduceSub, Int.reduceNeg, Int.reduceToNat, Int.reducePow, Nat.reducePow, Int.reduceMul, Int.reduceDiv, ↓s_slices_BinarySearchFunc_string, hlen]
      rw [hz, hloop _ (l.length - 0) 0 l.length rfl (by omega) hpl (by omega)]
      simp (disch := first | with_reducible rfl | assumption | omega | rfl | (simp only [go_sem]; first | done | omega)) only [go_sem, ↓reduceIte, reduceCtorEq, Nat.reduceEqDiff, Nat.reduceAdd, Nat.reduceSub, Nat.reduceMul, Nat.reduceDiv, Nat.reduceMod, Nat.reduceLeDiff, Nat.reduceLT, Nat.reduceBEq, Int.reduceEq, Int.reduceBEq, Int.reduceBNe, Int.reduceLT, Int.reduceLE, Int.reduceAdd, Int.reduceSub, Int.reduceNeg, Int.reduceToNat, Int.reducePow, Nat.reducePow, Int.reduceMul, Int.reduceDiv, hlt']
      rfl
    · (repeat (first | exact Fr.refl _ | refine Fr.push ?_ _ | refine Fr.set ?_ _ _ (by intro h; first | omega | (simp only [go_sem] at h; omega))))

/-! ### The check -/
theorem q_check_1 (a : ByteArray) (H : AHeap) : CC F.model_check_1 [.string a] H = some (.bool (decide (40 < (bl a).length)), H) := by
  have e : decide ((40 : Int) < ((bl a).length : Int)) = decide (40 < (bl a).length) := decide_eq_decide.2 (by omega)
  apply pure_of _ (d_model_check_1 _ H) rfl
  rotate_left 2
  · simp (disch := first | with_reducible rfl | assumption | omega | rfl | (simp only [go_sem]; first | done | omega)) only [go_sem, ↓reduceIte, reduceCtorEq, Nat.reduceEqDiff, Nat.reduceAdd, Nat.reduceSub, Nat.reduceMul, Nat.reduceDiv, Nat.reduceMod, Nat.reduceLeDiff, Nat.reduceLT, Nat.reduceBEq, Int.reduceEq, Int.reduceBEq, Int.reduceBNe, Int.reduceLT, Int.reduceLE, Int.reduceAdd, Int.reduceSub, Int.reduceNeg, Int.reduceToNat, Int.reducePow, Nat.reducePow, Int.reduceMul, Int.reduceDiv, ↓s_model_check_1, e]
    rfl
  · (repeat (first | exact Fr.refl _ | refine Fr.push ?_ _ | refine Fr.set ?_ _ _ (by intro h; first | omega | (simp only [go_sem] at h; omega))))
@[go_sem, go_sem ↓] theorem e_check_1 (a : ByteArray) (H : AHeap) {k : Value → AHeap → Res} : enterK CC F.model_check_1 [.string a] H k = k (.bool (decide (40 < (bl a).length))) H := enterK_eq (q_check_1 a H)

def idxLong : List ByteArray → Nat → Int
  | [], _ => -1
  | a :: l, i => if 40 < (bl a).length then i else idxLong l (i + 1)

theorem l_indexS (l : List ByteArray) (v : Value) (H : AHeap) (hr : Rd EStr H v l) (hl : l.length < 4611686018427387904) (K : K) : ∀ (m : List ByteArray) (i : Nat), l.drop i = m → i ≤ l.length →
    l_slices_IndexFunc_string_0 v (.func (.func F.model_check_1) #[] #[]) (.int .i64 l.length) (.int .i64 i) H (blkK [] 0 (seqK (fun _ h2 => K .ret [(4, .int .i64 (-1))] h2) K)) = K .ret [(4, .int .i64 (idxLong m i))] H
  | [], i, hm, hi => by
    have h : l.length ≤ i := List.drop_eq_nil_iff.1 hm
    have hlt : ¬ (i : Int) < (l.length : Int) := by omega
    rw [r_slices_IndexFunc_string_0]
    simp (disch := first | with_reducible rfl | assumption | omega | rfl | (simp only [go_sem]; first | done | omega)) only [go_sem, ↓reduceIte, reduceCtorEq, Nat.reduceEqDiff, Nat.reduceAdd, Nat.reduceSub, Nat.reduceMul, Nat.reduceDiv, Nat.reduceMod, Nat.reduceLeDiff, Nat.reduceLT, Nat.reduceBEq, Int.reduceEq, Int.reduceBEq, Int.reduceBNe, Int.reduceLT, Int.reduceLE, Int.reduceAdd, Int.reduceSub, Int.reduceNeg, Int.reduceToNat, Int.reducePow, Nat.reducePow, Int.reduceMul, Int.reduceDiv, ↓s_slices_IndexFunc_string_b0, hlt, idxLong]
  | a :: m, i, hm, hi => by
    have h : i < l.length := by
      rcases Nat.lt_or_ge i l.length with h | h
      · exact h
      · rw [List.drop_eq_nil_of_le h] at hm; cases hm
    have hlt : (i : Int) < (l.length : Int) := by omega
    have ha : l[i] = a := by rw [List.drop_eq_getElem_cons h] at hm; exact (List.cons.inj hm).1
    have hm' : l.drop (i + 1) = m := by rw [List.drop_eq_getElem_cons h] at hm; exact (List.cons.inj hm).2
    have ih := l_indexS l v H hr hl K m (i + 1) hm' h
    obtain ⟨b, o, hix, hb, hc, _⟩ := hr.ix (q := .i64) h
    rw [ha] at hc
    have hix : ixS 1 v (.int .i64 i) = some (.pointer (some ⟨b, o, none⟩)) := hix
    have hc : cellB (H.f b) o = some (.string a) := cutB_cell hc (i := 0) (by decide)
    rw [Int.natCast_add] at ih
    rw [r_slices_IndexFunc_string_0]
    by_cases he : 40 < (bl a).length
    · have hd : decide (40 < (bl a).length) = true := decide_eq_true he
      rw [idxLong, if_pos he]
      simp (disch := first | with_reducible rfl | assumption | omega | rfl | (simp only [go_sem]; first | done | omega)) only [go_sem, ↓reduceIte, reduceCtorEq, Nat.reduceEqDiff, Nat.reduceAdd, Nat.reduceSub, Nat.reduceMul, Nat.reduceDiv, Nat.reduceMod, Nat.reduceLeDiff, Nat.reduceLT, Nat.reduceBEq, Int.reduceEq, Int.reduceBEq, Int.reduceBNe, Int.reduceLT, Int.reduceLE, Int.reduceAdd, Int.reduceSub, Int.reduceNeg, Int.reduceToNat, Int.reducePow, Nat.reducePow, Int.reduceMul, Int.reduceDiv, ↓s_slices_IndexFunc_string_b0, hlt, hix, hc, c_model_check_1, e_check_1, hd]
    · have hd : decide (40 < (bl a).length) = false := decide_eq_false he
      rw [idxLong, if_neg he]
      simp (disch := first | with_reducible rfl | assumption | omega | rfl | (simp only [go_sem]; first | done | omega)) only [go_sem, ↓reduceIte, reduceCtorEq, Nat.reduceEqDiff, Nat.reduceAdd, Nat.reduceSub, Nat.reduceMul, Nat.reduceDiv, Nat.reduceMod, Nat.reduceLeDiff, Nat.reduceLT, Nat.reduceBEq, Int.reduceEq, Int.reduceBEq, Int.reduceBNe, Int.reduceLT, Int.reduceLE, Int.reduceAdd, Int.reduceSub, Int.reduceNeg, Int.reduceToNat, Int.reducePow, Nat.reducePow, Int.reduceMul, Int.reduceDiv, ↓s_slices_IndexFunc_string_b0, hlt, hix, hc, c_model_check_1, e_check_1, hd]
      exact ih

theorem idxLong_iff : ∀ (l : List ByteArray) (i : Nat), (0 ≤ idxLong l i) = (∃ a, a ∈ l ∧ 40 < (bl a).length)
  | [], i => by simp [idxLong]
  | a :: l, i => by
    rw [idxLong]
    by_cases h : 40 < (bl a).length
    · rw [if_pos h]; simp [h]
    · rw [if_neg h, idxLong_iff l (i + 1)]; simp [h]

/-- The error of a key and values. -/
def chk (key : ByteArray) (vs : List ByteArray) : Int :=
  if bl key = [] then 2 else if 24 < (bl key).length ∨ (vs.any fun a => decide (40 < (bl a).length)) = true then 5 else 0

theorem q_contains (l : List ByteArray) (v : Value) (H : AHeap) (hr : Rd EStr H v l) (hl : l.length < 4611686018427387904) :
    CC F.slices_ContainsFunc_string [v, .func (.func F.model_check_1) #[] #[]] H = some (.bool (l.any fun a => decide (40 < (bl a).length)), H) := by
  have hlen := hr.lenS
  have hix : CC F.slices_IndexFunc_string [v, .func (.func F.model_check_1) #[] #[]] H = some (.int .i64 (idxLong l 0), H) := by
    apply pure_of _ (d_slices_IndexFunc_string _ _ H) rfl
    rotate_left 2
    · simp (disch := first | with_reducible rfl | assumption | omega | rfl | (simp only [go_sem]; first | done | omega)) only [go_sem, ↓reduceIte, reduceCtorEq, Nat.reduceEqDiff, Nat.reduceAdd, Nat.reduceSub, Nat.reduceMul, Nat.reduceDiv, Nat.reduceMod, Nat.reduceLeDiff, Nat.reduceLT, Nat.reduceBEq, Int.reduceEq, Int.reduceBEq, Int.reduceBNe, Int.reduceLT, Int.reduceLE, Int.reduceAdd, Int.reduceSub, Int.reduceNeg, Int.reduceToNat, Int.reducePow, Nat.reducePow, Int.reduceMul, Int.reduceDiv, ↓s_slices_IndexFunc_string, hlen]
      exact l_indexS l v H hr hl (endK Try.prog [.tmp 4]) l 0 (by simp) (by omega)
    · (repeat (first | exact Fr.refl _ | refine Fr.push ?_ _ | refine Fr.set ?_ _ _ (by intro h; first | omega | (simp only [go_sem] at h; omega))))
  have e : decide (0 ≤ idxLong l 0) = l.any fun a => decide (40 < (bl a).length) := by
    rw [Bool.eq_iff_iff, decide_eq_true_iff, idxLong_iff, List.any_eq_true]
    simp
  apply pure_of _ (d_slices_ContainsFunc_string _ _ H) rfl
  rotate_left 2
  · simp (disch := first | with_reducible rfl | assumption | omega | rfl | (simp only [go_sem]; first | done | omega)) only [go_sem, ↓reduceIte, reduceCtorEq, Nat.reduceEqDiff, Nat.reduceAdd, Nat.reduceSub, Nat.reduceMul, Nat.reduceDiv, Nat.reduceMod, Nat.reduceLeDiff, Nat.reduceLT, Nat.reduceBEq, Int.reduceEq, Int.reduceBEq, Int.reduceBNe, Int.reduceLT, Int.reduceLE, Int.reduceAdd, Int.reduceSub, Int.reduceNeg, Int.reduceToNat, Int.reducePow, Nat.reducePow, Int.reduceMul, Int.reduceDiv, ↓s_slices_ContainsFunc_string, ↓enterK_eq hix, enterK_eq hix, e]
    rfl
  · (repeat (first | exact Fr.refl _ | refine Fr.push ?_ _ | refine Fr.set ?_ _ _ (by intro h; first | omega | (simp only [go_sem] at h; omega))))

theorem q_check (key : ByteArray) (l : List ByteArray) (v : Value) (H : AHeap) (hr : Rd EStr H v l) (hl : l.length < 4611686018427387904) :
    CC F.model_check [.string key, v] H = some (.int .i64 (chk key l), H) := by
  have hcon := q_contains l v H hr hl
  unfold chk
  by_cases h1 : bl key = []
  · have hd : decide (bl key = []) = true := decide_eq_true h1
    rw [if_pos h1]
    apply pure_of _ (d_model_check _ _ H) rfl
    rotate_left 2
    · simp (disch := first | with_reducible rfl | assumption | omega | rfl | (simp only [go_sem]; first | done | omega)) only [go_sem, ↓reduceIte, reduceCtorEq, Nat.reduceEqDiff, Nat.reduceAdd, Nat.reduceSub, Nat.reduceMul, Nat.reduceDiv, Nat.reduceMod, Nat.reduceLeDiff, Nat.reduceLT, Nat.reduceBEq, Int.reduceEq, Int.reduceBEq, Int.reduceBNe, Int.reduceLT, Int.reduceLE, Int.reduceAdd, Int.reduceSub, Int.reduceNeg, Int.reduceToNat, Int.reducePow, Nat.reducePow, Int.reduceMul, Int.reduceDiv, ↓s_model_check, hd]
      rfl
    · (repeat (first | exact Fr.refl _ | refine Fr.push ?_ _ | refine Fr.set ?_ _ _ (by intro h; first | omega | (simp only [go_sem] at h; omega))))
  · have hd : decide (bl key = []) = false := decide_eq_false h1
    rw [if_neg h1]
    by_cases h2 : 24 < (bl key).length
    · have hd2 : decide ((24 : Int) < ((bl key).length : Int)) = true := decide_eq_true (by omega)
      rw [if_pos (.inl h2)]
      apply pure_of _ (d_model_check _ _ H) rfl
      rotate_left 2
      · simp (disch := first | with_reducible rfl | assumption | omega | rfl | (simp only [go_sem]; first | done | omega)) only [go_sem, ↓reduceIte, reduceCtorEq, Nat.reduceEqDiff, Nat.reduceAdd, Nat.reduceSub, Nat.reduceMul, Nat.reduceDiv, Nat.reduceMod, Nat.reduceLeDiff, Nat.reduceLT, Nat.reduceBEq, Int.reduceEq, Int.reduceBEq, Int.reduceBNe, Int.reduceLT, Int.reduceLE, Int.reduceAdd, Int.reduceSub, Int.reduceNeg, Int.reduceToNat, Int.reducePow, Nat.reducePow, Int.reduceMul, Int.reduceDiv, ↓s_model_check, hd, hd2]
        rfl
      · (repeat (first | exact Fr.refl _ | refine Fr.push ?_ _ | refine Fr.set ?_ _ _ (by intro h; first | omega | (simp only [go_sem] at h; omega))))
    · have hd2 : decide ((24 : Int) < ((bl key).length : Int)) = false := decide_eq_false (by omega)
      cases hany : l.any fun a => decide (40 < (bl a).length) with
      | true =>
        rw [hany] at hcon
        rw [if_pos (.inr rfl)]
        apply pure_of _ (d_model_check _ _ H) rfl
        rotate_left 2
        · simp (disch := first | with_reducible rfl | assumption | omega | rfl | (simp only [go_sem]; first | done | omega)) only [go_sem, ↓reduceIte, reduceCtorEq, Nat.reduceEqDiff, Nat.reduceAdd, Nat.reduceSub, Nat.reduceMul, Nat.reduceDiv, Nat.reduceMod, Nat.reduceLeDiff, Nat.reduceLT, Nat.reduceBEq, Int.reduceEq, Int.reduceBEq, Int.reduceBNe, Int.reduceLT, Int.reduceLE, Int.reduceAdd, Int.reduceSub, Int.reduceNeg, Int.reduceToNat, Int.reducePow, Nat.reducePow, Int.reduceMul, Int.reduceDiv, ↓s_model_check, hd, hd2, ↓enterK_eq hcon, enterK_eq hcon]
          rfl
        · (repeat (first | exact Fr.refl _ | refine Fr.push ?_ _ | refine Fr.set ?_ _ _ (by intro h; first | omega | (simp only [go_sem] at h; omega))))
      | false =>
        rw [hany] at hcon
        rw [if_neg (by simp; omega)]
        apply pure_of _ (d_model_check _ _ H) rfl
        rotate_left 2
        · simp (disch := first | with_reducible rfl | assumption | omega | rfl | (simp only [go_sem]; first | done | omega)) only [go_sem, ↓reduceIte, reduceCtorEq, Nat.reduceEqDiff, Nat.reduceAdd, Nat.reduceSub, Nat.reduceMul, Nat.reduceDiv, Nat.reduceMod, Nat.reduceLeDiff, Nat.reduceLT, Nat.reduceBEq, Int.reduceEq, Int.reduceBEq, Int.reduceBNe, Int.reduceLT, Int.reduceLE, Int.reduceAdd, Int.reduceSub, Int.reduceNeg, Int.reduceToNat, Int.reducePow, Nat.reducePow, Int.reduceMul, Int.reduceDiv, ↓s_model_check, hd, hd2, ↓enterK_eq hcon, enterK_eq hcon]
          rfl
        · (repeat (first | exact Fr.refl _ | refine Fr.push ?_ _ | refine Fr.set ?_ _ _ (by intro h; first | omega | (simp only [go_sem] at h; omega))))

/-! ### The map -/
def MdlT (t : TypeId × List Value) (H : AHeap) (b : Nat) (l : List Pr) : Prop := ∃ v, H.f b = .cells (v :: t.2) t.1 true ∧ b < H.n ∧ Own EPr H T.api_Pair v l ∧ blockOf v ≠ some b

theorem MdlT.keep {t : TypeId × List Value} {H H' : AHeap} {S : Nat → Prop} {b : Nat} {l : List Pr} (r : MdlT t H b l) (h : Fr S H H') (hb : ¬ S b) (hv : ∀ v, H.f b = .cells (v :: t.2) t.1 true → Off S v) : MdlT t H' b l := by
  obtain ⟨v, h1, h2, h3, h4⟩ := r
  exact ⟨v, by rw [h.f h2 hb]; exact h1, Nat.lt_of_lt_of_le h2 h.n, h3.keep h (hv v h1), h4⟩
theorem MdlT.still {t : TypeId × List Value} {H H' : AHeap} {b : Nat} {l : List Pr} (r : MdlT t H b l) (h : Still H H') : MdlT t H' b l := r.keep h (fun h => h) fun _ _ _ _ h => h

def Ok (H : AHeap) : Prop := ∀ b, H.ver b < H.clk
theorem Ok.fr {S : Nat → Prop} {H H' : AHeap} (h : Ok H) (f : Fr S H H') : Ok H' := f.ok h
theorem H0_ok : Ok H0 := fun _ => Nat.zero_lt_one

/-- The blocks of a map. -/
def MBT (t : TypeId × List Value) (H : AHeap) (b : Nat) : Nat → Prop := fun c => c = b ∨ ∃ v, H.f b = .cells (v :: t.2) t.1 true ∧ blockOf v = some c

theorem q_place {t : TypeId × List Value} (b : Nat) (l : List Pr) (key : ByteArray) (H : AHeap) (r : MdlT t H b l) (hl : l.length < 1152921504606846976) (p : Nat) (hp : PosP l key p) :
    CC F.model_Model_place [.pointer (some ⟨b, 0, none⟩), .string key] H = some (.tuple #[.int .i64 p, .bool (isP l key p)], H) := by
  obtain ⟨v, h1, h2, h3, h4⟩ := r
  have hbs := q_bsP l v key H h3.rd hl p hp
  apply pure_of _ (d_model_Model_place _ _ H) rfl
  rotate_left 2
  · simp (disch := first | with_reducible rfl | assumption | omega | rfl | (simp only [go_sem]; first | done | omega)) only [go_sem, ↓reduceIte, reduceCtorEq, Nat.reduceEqDiff, Nat.reduceAdd, Nat.reduceSub, Nat.reduceMul, Nat.reduceDiv, Nat.reduceMod, Nat.reduceLeDiff, Nat.reduceLT, Nat.reduceBEq, Int.reduceEq, Int.reduceBEq, Int.reduceBNe, Int.reduceLT, Int.reduceLE, Int.reduceAdd, Int.reduceSub, Int.reduceNeg, Int.reduceToNat, Int.reducePow, Nat.reducePow, Int.reduceMul, Int.reduceDiv, ↓s_model_Model_place, h1, ↓enterK_eq hbs, enterK_eq hbs]
    rfl
  · (repeat (first | exact Fr.refl _ | refine Fr.push ?_ _ | refine Fr.set ?_ _ _ (by intro h; first | omega | (simp only [go_sem] at h; omega))))

theorem q_at_bad (b : Nat) (key : ByteArray) (vs : List ByteArray) (v : Value) (H : AHeap) (hv : Rd EStr H v vs) (hvl : vs.length < 4611686018427387904) (hc : chk key vs ≠ 0) :
    CC F.model_Model_at [.pointer (some ⟨b, 0, none⟩), .string key, v] H = some (.tuple #[.int .i64 0, .bool false, .int .i64 (chk key vs)], H) := by
  have hck := q_check key vs v H hv hvl
  generalize chk key vs = e at hck hc
  apply pure_of _ (d_model_Model_at _ _ _ H) rfl
  rotate_left 2
  · simp (disch := first | with_reducible rfl | assumption | omega | rfl | (simp only [go_sem]; first | done | omega)) only [go_sem, ↓reduceIte, reduceCtorEq, Nat.reduceEqDiff, Nat.reduceAdd, Nat.reduceSub, Nat.reduceMul, Nat.reduceDiv, Nat.reduceMod, Nat.reduceLeDiff, Nat.reduceLT, Nat.reduceBEq, Int.reduceEq, Int.reduceBEq, Int.reduceBNe, Int.reduceLT, Int.reduceLE, Int.reduceAdd, Int.reduceSub, Int.reduceNeg, Int.reduceToNat, Int.reducePow, Nat.reducePow, Int.reduceMul, Int.reduceDiv, ↓s_model_Model_at, mp_some, ↓enterK_eq hck, enterK_eq hck, hc]
    rfl
  · (repeat (first | exact Fr.refl _ | refine Fr.push ?_ _ | refine Fr.set ?_ _ _ (by intro h; first | omega | (simp only [go_sem] at h; omega))))

theorem q_at {t : TypeId × List Value} (b : Nat) (l : List Pr) (key : ByteArray) (vs : List ByteArray) (v : Value) (H : AHeap) (r : MdlT t H b l) (hl : l.length < 1152921504606846976) (p : Nat) (hp : PosP l key p) (hv : Rd EStr H v vs) (hvl : vs.length < 4611686018427387904) (hc : chk key vs = 0) :
    CC F.model_Model_at [.pointer (some ⟨b, 0, none⟩), .string key, v] H = some (.tuple #[.int .i64 p, .bool (isP l key p), .int .i64 0], H) := by
  have hck := q_check key vs v H hv hvl
  rw [hc] at hck
  have hpl := q_place b l key H r hl p hp
  apply pure_of _ (d_model_Model_at _ _ _ H) rfl
  rotate_left 2
  · simp (disch := first | with_reducible rfl | assumption | omega | rfl | (simp only [go_sem]; first | done | omega)) only [go_sem, ↓reduceIte, reduceCtorEq, Nat.reduceEqDiff, Nat.reduceAdd, Nat.reduceSub, Nat.reduceMul, Nat.reduceDiv, Nat.reduceMod, Nat.reduceLeDiff, Nat.reduceLT, Nat.reduceBEq, Int.reduceEq, Int.reduceBEq, Int.reduceBNe, Int.reduceLT, Int.reduceLE, Int.reduceAdd, Int.reduceSub, Int.reduceNeg, Int.reduceToNat, Int.reducePow, Nat.reducePow, Int.reduceMul, Int.reduceDiv, ↓s_model_Model_at, mp_some, ↓enterK_eq hck, enterK_eq hck, c_model_Model_place, ↓enterK_eq hpl, enterK_eq hpl]
    rfl
  · (repeat (first | exact Fr.refl _ | refine Fr.push ?_ _ | refine Fr.set ?_ _ _ (by intro h; first | omega | (simp only [go_sem] at h; omega))))

def getP (l : List Pr) (key : ByteArray) (p : Nat) : Value := if isP l key p = true then .tuple #[.string ((l[p]?).elim (mk []) Pr.value), .int .i64 0] else .tuple #[.string (mk []), .int .i64 9]
theorem q_Get_bad (b : Nat) (key : ByteArray) (H : AHeap) (hc : chk key [] ≠ 0) : CC F.model_Model_Get [.pointer (some ⟨b, 0, none⟩), .string key] H = some (.tuple #[.string (mk []), .int .i64 (chk key [])], H) := by
  have hat := q_at_bad b key [] (.slice none 0 0) H (.inl ⟨rfl, rfl⟩) (by simp) hc
  generalize chk key [] = e at hat hc
  apply pure_of _ (d_model_Model_Get _ _ H) rfl
  rotate_left 2
  · simp (disch := first | with_reducible rfl | assumption | omega | rfl | (simp only [go_sem]; first | done | omega)) only [go_sem, ↓reduceIte, reduceCtorEq, Nat.reduceEqDiff, Nat.reduceAdd, Nat.reduceSub, Nat.reduceMul, Nat.reduceDiv, Nat.reduceMod, Nat.reduceLeDiff, Nat.reduceLT, Nat.reduceBEq, Int.reduceEq, Int.reduceBEq, Int.reduceBNe, Int.reduceLT, Int.reduceLE, Int.reduceAdd, Int.reduceSub, Int.reduceNeg, Int.reduceToNat, Int.reducePow, Nat.reducePow, Int.reduceMul, Int.reduceDiv, ↓s_model_Model_Get, ↓enterK_eq hat, enterK_eq hat, hc]
    rfl
  · (repeat (first | exact Fr.refl _ | refine Fr.push ?_ _ | refine Fr.set ?_ _ _ (by intro h; first | omega | (simp only [go_sem] at h; omega))))

/-- What is gotten: the value and the error. -/

theorem q_Get {t : TypeId × List Value} (b : Nat) (l : List Pr) (key : ByteArray) (H : AHeap) (r : MdlT t H b l) (hl : l.length < 1152921504606846976) (p : Nat) (hp : PosP l key p) (hc : chk key [] = 0) :
    CC F.model_Model_Get [.pointer (some ⟨b, 0, none⟩), .string key] H = some (getP l key p, H) := by
  have hat := q_at b l key [] (.slice none 0 0) H r hl p hp (.inl ⟨rfl, rfl⟩) (by simp) hc
  obtain ⟨v, h1, h2, h3, h4⟩ := r
  unfold getP
  cases his : isP l key p with
  | false =>
    rw [his] at hat
    simp only [Bool.false_eq_true, if_false]
    apply pure_of _ (d_model_Model_Get _ _ H) rfl
    rotate_left 2
    · simp (disch := first | with_reducible rfl | assumption | omega | rfl | (simp only [go_sem]; first | done | omega)) only [go_sem, ↓reduceIte, reduceCtorEq, Nat.reduceEqDiff, Nat.reduceAdd, Nat.reduceSub, Nat.reduceMul, Nat.reduceDiv, Nat.reduceMod, Nat.reduceLeDiff, Nat.reduceLT, Nat.reduceBEq, Int.reduceEq, Int.reduceBEq, Int.reduceBNe, Int.reduceLT, Int.reduceLE, Int.reduceAdd, Int.reduceSub, Int.reduceNeg, Int.reduceToNat, Int.reducePow, Nat.reducePow, Int.reduceMul, Int.reduceDiv, ↓s_model_Model_Get, ↓enterK_eq hat, enterK_eq hat]
      rfl
    · (repeat (first | exact Fr.refl _ | refine Fr.push ?_ _ | refine Fr.set ?_ _ _ (by intro h; first | omega | (simp only [go_sem] at h; omega))))
  | true =>
    rw [his] at hat
    have hlt : p < l.length := by
      rcases Nat.lt_or_ge p l.length with h | h
      · exact h
      · unfold isP at his; rw [List.getElem?_eq_none h] at his; cases his
    obtain ⟨bb, o, hix, hb, hcc, _⟩ := h3.rd.ix (q := .i64) hlt
    have hix : ixS 2 v (.int .i64 p) = some (.pointer (some ⟨bb, o, none⟩)) := hix
    have hcc : cellB (H.f bb) (o + 1) = some (.string l[p].value) := cutB_cell hcc (i := 1) (by decide)
    simp only [if_true, List.getElem?_eq_getElem hlt, Option.elim]
    apply pure_of _ (d_model_Model_Get _ _ H) rfl
    rotate_left 2
    · simp (disch := first | with_reducible rfl | assumption | omega | rfl | (simp only [go_sem]; first | done | omega)) only [go_sem, ↓reduceIte, reduceCtorEq, Nat.reduceEqDiff, Nat.reduceAdd, Nat.reduceSub, Nat.reduceMul, Nat.reduceDiv, Nat.reduceMod, Nat.reduceLeDiff, Nat.reduceLT, Nat.reduceBEq, Int.reduceEq, Int.reduceBEq, Int.reduceBNe, Int.reduceLT, Int.reduceLE, Int.reduceAdd, Int.reduceSub, Int.reduceNeg, Int.reduceToNat, Int.reducePow, Nat.reducePow, Int.reduceMul, Int.reduceDiv, ↓s_model_Model_Get, ↓enterK_eq hat, enterK_eq hat, h1, hix, hcc]
      rfl
    · (repeat (first | exact Fr.refl _ | refine Fr.push ?_ _ | refine Fr.set ?_ _ _ (by intro h; first | omega | (simp only [go_sem] at h; omega))))

end Go.Proofs.Ythjjkinpbpealaa

/-
  The plain map: set, Put, Insert, Delete, Swap.
  Conditions: none. By an AI agent.
-/
set_option maxRecDepth 10000
set_option linter.unusedSimpArgs false
set_option linter.unusedVariables false
namespace Go.Proofs.Ythjjkinpbpealaa
open Go Eng

theorem srcOne {a : Pr} {b : Nat} {H : AHeap} (h : H.f b = .cells [.string a.key, .string a.value] T.api_Pair true) : srcS 2 (.slice (some ⟨b, 0, none⟩) 1 2) H = some ([a].length, EPr.cells [a]) := by
  unfold srcS
  simp only [cut_b, h, Nat.one_ne_zero, if_false]
  rfl

/-- Writing an element of a list of its own. -/
theorem Own.write {l : List Pr} {v : Value} {H : AHeap} (r : Own EPr H T.api_Pair v l) {i : Nat} (hi : i < l.length) (a : Pr) :
    ∃ b o H', ixS 2 v (.int .i64 (i : Int)) = some (.pointer (some ⟨b, o, none⟩)) ∧ setB H b (wrL (H.f b) o [.string a.key, .string a.value]) = some H' ∧ Own EPr H' T.api_Pair v (l.set i a) ∧ blockOf v = some b ∧ b < H.n ∧
      H'.n = H.n ∧ Fr (fun c => c = b) H H' ∧ H'.ver b = H.clk := by
  rcases r with ⟨h, _⟩ | ⟨h, _⟩ | ⟨b, o, c, xs, rfl, hlc, hb, hf, ho, hx⟩
  · subst h; simp at hi
  · subst h; simp at hi
  · have hw : EPr.w = 2 := rfl
    rw [hw] at ho hx
    have hmul : l.length * 2 ≤ c * 2 := Nat.mul_le_mul_right _ hlc
    refine ⟨b, o + i * 2, H.set b (.cells (spl xs (o + i * 2) [.string a.key, .string a.value]) T.api_Pair true), ixS_nat hi, ?_, ?_, rfl, hb, rfl, Fr.set (Fr.refl H) _ _ fun _ => rfl, set_v_eq⟩
    · rw [hf, wrL_c (by simp; omega) rfl, setB_s]
    · refine .inr (.inr ⟨b, o, c, _, by simp, by simpa using hlc, by simpa using hb, set_f_eq, by rw [spl_length, hw, ho], ?_⟩)
      rw [List.length_set, hw]
      apply List.ext_getElem?
      intro j
      have hcell : ∀ (l : List Pr) (k m : Nat), m < 2 → (EPr.cells l)[k * 2 + m]? = (l[k]?).bind fun a => (EPr.enc a)[m]? := by
        intro l k m hm
        by_cases hk : k < l.length
        · have := EPr.cells_elem l k hk
          rw [hw] at this
          rw [List.getElem?_eq_getElem hk, Option.bind_some, ← this, List.getElem?_take_of_lt hm, List.getElem?_drop]
        · rw [List.getElem?_eq_none (by rw [EPr.cells_len, hw]; omega), List.getElem?_eq_none (by omega)]
          rfl
      by_cases hj : j < l.length * 2
      · rw [List.getElem?_take_of_lt hj, List.getElem?_drop, spl_get _ _ _ _ (by simp; omega)]
        have hdm : j = (j / 2) * 2 + j % 2 := by omega
        rw [hdm, hcell _ _ _ (by omega)]
        have hold : xs[o + j]? = (l[j / 2]?).bind fun a => (EPr.enc a)[j % 2]? := by
          rw [← hcell _ _ _ (by omega), ← hdm, ← hx, List.getElem?_take_of_lt hj, List.getElem?_drop]
        by_cases h1 : j / 2 = i
        · rw [if_pos (by simp; omega), ← h1, List.getElem?_set_self (by omega), Option.bind_some]
          rw [show o + (j / 2 * 2 + j % 2) - (o + j / 2 * 2) = j % 2 by omega]
          rfl
        · rw [if_neg (by simp; omega), List.getElem?_set_ne (by omega), ← hdm, hold]
      · rw [List.getElem?_eq_none (by simp only [List.length_take]; omega), List.getElem?_eq_none (by rw [EPr.cells_len, List.length_set, hw]; omega)]

/-- What a call may turn that works on a map: the map's blocks; and it has new ones at most. -/
structure UpT (t : TypeId × List Value) (H : AHeap) (b : Nat) (H' : AHeap) : Prop where
  fr : Fr (MBT t H b) H H'
  mb : ∀ c, MBT t H' b c → MBT t H b c ∨ H.n ≤ c
theorem UpT.refl {t : TypeId × List Value} (H : AHeap) (b : Nat) : UpT t H b H := ⟨Fr.refl H, fun _ h => .inl h⟩
/-- From the map's cell before and behind. -/
theorem UpT.of {t : TypeId × List Value} {H H' : AHeap} {b : Nat} {v v' : Value} (h1 : H.f b = .cells (v :: t.2) t.1 true) (f : Fr (MBT t H b) H H') (h2 : H'.f b = .cells (v' :: t.2) t.1 true) (h : ∀ c, blockOf v' = some c → blockOf v = some c ∨ H.n ≤ c) : UpT t H b H' := by
  refine ⟨f, fun c hc => ?_⟩
  rcases hc with hc | ⟨u, hu, hb⟩
  · exact .inl (.inl hc)
  · rw [h2] at hu
    cases hu
    exact (h c hb).imp (fun h => .inr ⟨v, h1, h⟩) id

/-- set, where the key is there. -/
theorem q_set_is {t : TypeId × List Value} (b : Nat) (l : List Pr) (i : Nat) (a : Pr) (H : AHeap) (ok : Ok H) (r : MdlT t H b l) (hi : i < l.length) :
    ∃ H', CC F.model_Model_set [.pointer (some ⟨b, 0, none⟩), .int .i64 (i : Int), .bool true, .agg #[.string a.key, .string a.value]] H = some (.int .i64 0, H') ∧ MdlT t H' b (l.set i a) ∧ UpT t H b H' := by
  obtain ⟨v, h1, h2, h3, h4⟩ := r
  let H1 : AHeap := H.push (.cells [.string a.key, .string a.value] T.api_Pair true)
  have s1 : Still H H1 := (Fr.refl H).push _
  have o1 : Own EPr H1 T.api_Pair v l := h3.still s1
  obtain ⟨bb, o, H2, hix, hw, o2, hbv, hb, hn2, hf2, hv2⟩ := Own.write o1 hi a
  have hbn : bb < H.n := h3.blk hbv
  have fbb : H1.f bb = H.f bb := s1.f hbn (fun h => h)
  have hw : setB (H.push (.cells [.string a.key, .string a.value] T.api_Pair true)) bb (wrL (H.f bb) o [.string a.key, .string a.value]) = some H2 := by rw [← fbb]; exact hw
  have hne : b ≠ bb := fun h => h4 (by rw [h]; exact hbv)
  have hfr : Fr (MBT t H b) H H2 := Fr.then (S := MBT t H b) s1.still hf2 fun c _ h => by subst h; exact .inr ⟨v, h1, hbv⟩
  have hfb : H2.f b = .cells (v :: t.2) t.1 true := by rw [hf2.f (Nat.lt_of_lt_of_le h2 s1.n) hne, s1.f h2 (fun h => h), h1]
  refine ⟨H2, (d_model_Model_set _ _ _ _ H (r := (.int .i64 0, H2)) ?_).trans (congrArg some (tidy_turned hbn (ok bb) ?_)), ⟨v, hfb, by rw [hn2]; exact Nat.lt_of_lt_of_le h2 s1.n, o2, h4⟩, UpT.of h1 hfr hfb fun c h => .inl h⟩
  · simp (disch := first | with_reducible rfl | assumption | omega | rfl | (simp only [go_sem]; first | done | omega)) only [go_sem, ↓reduceIte, reduceCtorEq, Nat.reduceEqDiff, Nat.reduceAdd, Nat.reduceSub, Nat.reduceMul, Nat.reduceDiv, Nat.reduceMod, Nat.reduceLeDiff, Nat.reduceLT, Nat.reduceBEq, Int.reduceEq, Int.reduceBEq, Int.reduceBNe, Int.reduceLT, Int.reduceLE, Int.reduceAdd, Int.reduceSub, Int.reduceNeg, Int.reduceToNat, Int.reducePow, Nat.reducePow, Int.reduceMul, Int.reduceDiv, ↓s_model_Model_set, h1, hix, hw]
  · rw [hv2]; exact s1.clk

/-- set, where there is no room. -/
theorem q_set_full {t : TypeId × List Value} (b : Nat) (l : List Pr) (i : Nat) (a : Pr) (H : AHeap) (r : MdlT t H b l) (hl : l.length = 20000) :
    CC F.model_Model_set [.pointer (some ⟨b, 0, none⟩), .int .i64 (i : Int), .bool false, .agg #[.string a.key, .string a.value]] H = some (.int .i64 7, H) := by
  obtain ⟨v, h1, h2, h3, h4⟩ := r
  have hlen := h3.rd.lenS
  have he : (l.length : Int) = 20000 := by omega
  rw [he] at hlen
  apply pure_of _ (d_model_Model_set _ _ _ _ H) rfl
  rotate_left 2
  · simp (disch := first | with_reducible rfl | assumption | omega | rfl | (simp only [go_sem]; first | done | omega)) only [go_sem, ↓reduceIte, reduceCtorEq, Nat.reduceEqDiff, Nat.reduceAdd, Nat.reduceSub, Nat.reduceMul, Nat.reduceDiv, Nat.reduceMod, Nat.reduceLeDiff, Nat.reduceLT, Nat.reduceBEq, Int.reduceEq, Int.reduceBEq, Int.reduceBNe, Int.reduceLT, Int.reduceLE, Int.reduceAdd, Int.reduceSub, Int.reduceNeg, Int.reduceToNat, Int.reducePow, Nat.reducePow, Int.reduceMul, Int.reduceDiv, ↓s_model_Model_set, h1, hlen]
    rfl
  · (repeat (first | exact Fr.refl _ | refine Fr.push ?_ _ | refine Fr.set ?_ _ _ (by intro h; first | omega | (simp only [go_sem] at h; omega))))

/-- set, where the key is not there. -/
theorem q_set_new {t : TypeId × List Value} (b : Nat) (l : List Pr) (i : Nat) (a : Pr) (H : AHeap) (ok : Ok H) (r : MdlT t H b l) (hi : i ≤ l.length) (hl : l.length < 20000) :
    ∃ H', CC F.model_Model_set [.pointer (some ⟨b, 0, none⟩), .int .i64 (i : Int), .bool false, .agg #[.string a.key, .string a.value]] H = some (.int .i64 0, H') ∧ MdlT t H' b (l.take i ++ a :: l.drop i) ∧ UpT t H b H' := by
  obtain ⟨v, h1, h2, h3, h4⟩ := r
  have hlen := h3.rd.lenS
  have hne : ¬ (l.length : Int) = 20000 := by omega
  generalize hH1 : H.push (.cells [.string a.key, .string a.value] T.api_Pair true) = H1
  have s1 : Still H H1 := by rw [← hH1]; exact (Fr.refl H).push _
  have n1 : H1.n = H.n + 1 := by rw [← hH1]; rfl
  have f1 : H1.f H.n = .cells [.string a.key, .string a.value] T.api_Pair true := by rw [← hH1]; exact push_f_eq rfl
  have fb1 : H1.f b = .cells (v :: t.2) t.1 true := by rw [s1.f h2 (fun h => h), h1]
  generalize hH2 : H1.push (.cells [.string a.key, .string a.value] T.api_Pair true) = H2
  have s2 : Still H1 H2 := by rw [← hH2]; exact (Fr.refl H1).push _
  have n2 : H2.n = H1.n + 1 := by rw [← hH2]; rfl
  have f2 : H2.f H1.n = .cells [.string a.key, .string a.value] T.api_Pair true := by rw [← hH2]; exact push_f_eq rfl
  have fb2 : H2.f b = .cells (v :: t.2) t.1 true := by rw [s2.f (by omega) (fun h => h), fb1]
  have hnb : ∀ c, blockOf v = some c → c < H.n := fun c h => h3.blk h
  obtain ⟨v6, H4, hins, ho6, fr4, hb6⟩ := q_insert_Pair l v a H1.n i H2 ((h3.still s1).still s2) (by omega) hi (by omega) f2 (fun h => by have := hnb _ h; omega)
  have hone6 : Eng.one v6 = true := ho6.cell
  have fb4 : H4.f b = .cells (v :: t.2) t.1 true := by rw [fr4.f (by omega) h4, fb2]
  have n4 : H2.n ≤ H4.n := fr4.n
  generalize hH5 : H4.set b (.cells (v6 :: t.2) t.1 true) = H5
  have f5 : Fr (MBT t H b) H H5 := by
    rw [← hH5]
    refine Fr.set ?_ b _ (fun _ => .inl rfl)
    refine (s1.then s2 fun _ _ h => h).still.then (S := MBT t H b) fr4 fun c hc h => .inr ⟨v, h1, h⟩
  have hup : UpT t H b H5 := UpT.of h1 f5 (v' := v6) (by rw [← hH5]; exact set_f_eq) fun c hc => by
    rcases hb6 with h | ⟨x, h, hx⟩
    · exact .inl (by rw [← h]; exact hc)
    · rw [h] at hc; cases hc; exact .inr (by omega)
  refine ⟨H5, (d_model_Model_set _ _ _ _ H (r := (.int .i64 0, H5)) ?_).trans (congrArg some (tidy_turned h2 (ok b) ?_)), ?_, hup⟩
  · simp (disch := first | with_reducible rfl | assumption | omega | rfl | (simp only [go_sem]; first | done | omega)) only [go_sem, ↓reduceIte, reduceCtorEq, Nat.reduceEqDiff, Nat.reduceAdd, Nat.reduceSub, Nat.reduceMul, Nat.reduceDiv, Nat.reduceMod, Nat.reduceLeDiff, Nat.reduceLT, Nat.reduceBEq, Int.reduceEq, Int.reduceBEq, Int.reduceBNe, Int.reduceLT, Int.reduceLE, Int.reduceAdd, Int.reduceSub, Int.reduceNeg, Int.reduceToNat, Int.reducePow, Nat.reducePow, Int.reduceMul, Int.reduceDiv, ↓s_model_Model_set, hH1, fb1, f1, hlen, hne, hH2, ↓enterK_eq hins, enterK_eq hins, fb4, hH5]
  · rw [← hH5, set_v_eq]
    exact Nat.le_trans s1.clk (Nat.le_trans s2.clk fr4.clk)
  · have hb6' : blockOf v6 ≠ some b := by
      rcases hb6 with h | ⟨x, h, hx⟩
      · rw [h]; exact h4
      · rw [h]; intro h; cases h; omega
    refine ⟨v6, by rw [← hH5]; exact set_f_eq, by rw [← hH5]; simp; omega, ?_, hb6'⟩
    rw [← hH5]
    exact ho6.keep (S := fun x => x = b) (Fr.set (Fr.refl H4) b _ fun _ => rfl) fun c hc h => hb6' (h ▸ hc)

/-- The block of a new value: nothing of the map. -/
theorem rdOne (a : ByteArray) (H : AHeap) : Rd EStr (H.push (.cells [.string a] T.string true)) (.slice (some ⟨H.n, 0, none⟩) 1 2) [a] := by
  refine .inr (.inr ⟨H.n, 0, 2, rfl, by simp, by simp, ?_⟩)
  rw [push_f_eq rfl]
  rfl

theorem MB_still {t : TypeId × List Value} {H H1 : AHeap} {b : Nat} {v : Value} (h1 : H.f b = .cells (v :: t.2) t.1 true) (h2 : b < H.n) (s : Still H H1) : ∀ c, c < H.n → MBT t H1 b c → MBT t H b c := by
  intro c hc h
  rcases h with h | ⟨u, hu, hb⟩
  · exact .inl h
  · rw [s.f h2 (fun h => h)] at hu
    exact .inr ⟨u, hu, hb⟩

/-- What Put makes of a map: the error and the map. -/
def putP (l : List Pr) (a : Pr) (p : Nat) : Int × List Pr :=
  if isP l a.key p = true then (0, l.set p a) else if l.length = 20000 then (7, l) else (0, l.take p ++ a :: l.drop p)

theorem isP_lt {l : List Pr} {key : ByteArray} {p : Nat} (h : isP l key p = true) : p < l.length := by
  rcases Nat.lt_or_ge p l.length with h' | h'
  · exact h'
  · unfold isP at h; rw [List.getElem?_eq_none h'] at h; cases h

theorem q_set {t : TypeId × List Value} (b : Nat) (l : List Pr) (a : Pr) (p : Nat) (H : AHeap) (ok : Ok H) (r : MdlT t H b l) (hp : p ≤ l.length) (hl : l.length ≤ 20000) :
    ∃ H', CC F.model_Model_set [.pointer (some ⟨b, 0, none⟩), .int .i64 (p : Int), .bool (isP l a.key p), .agg #[.string a.key, .string a.value]] H = some (.int .i64 (putP l a p).1, H') ∧ MdlT t H' b (putP l a p).2 ∧ UpT t H b H' := by
  unfold putP
  cases his : isP l a.key p with
  | true => exact q_set_is b l p a H ok r (isP_lt his)
  | false =>
    simp only [Bool.false_eq_true, if_false]
    by_cases hf : l.length = 20000
    · rw [if_pos hf]; exact ⟨H, q_set_full b l p a H r hf, r, UpT.refl H b⟩
    · rw [if_neg hf]; exact q_set_new b l p a H ok r hp (by omega)

theorem q_Put_bad {t : TypeId × List Value} (b : Nat) (l : List Pr) (a : Pr) (H : AHeap) (r : MdlT t H b l) (hc : chk a.key [a.value] ≠ 0) :
    CC F.model_Model_Put [.pointer (some ⟨b, 0, none⟩), .string a.key, .string a.value] H = some (.int .i64 (chk a.key [a.value]), H) := by
  have hat := q_at_bad b a.key [a.value] _ _ (rdOne a.value H) (by simp) hc
  generalize chk a.key [a.value] = e at hat hc
  apply pure_of _ (d_model_Model_Put _ _ _ H) rfl
  rotate_left 2
  · simp (disch := first | with_reducible rfl | assumption | omega | rfl | (simp only [go_sem]; first | done | omega)) only [go_sem, ↓reduceIte, reduceCtorEq, Nat.reduceEqDiff, Nat.reduceAdd, Nat.reduceSub, Nat.reduceMul, Nat.reduceDiv, Nat.reduceMod, Nat.reduceLeDiff, Nat.reduceLT, Nat.reduceBEq, Int.reduceEq, Int.reduceBEq, Int.reduceBNe, Int.reduceLT, Int.reduceLE, Int.reduceAdd, Int.reduceSub, Int.reduceNeg, Int.reduceToNat, Int.reducePow, Nat.reducePow, Int.reduceMul, Int.reduceDiv, ↓s_model_Model_Put, ↓enterK_eq hat, enterK_eq hat, hc]
    rfl
  · (repeat (first | exact Fr.refl _ | refine Fr.push ?_ _ | refine Fr.set ?_ _ _ (by intro h; first | omega | (simp only [go_sem] at h; omega))))

/-- A call that turns the map, behind a new block. -/
theorem after_push {t : TypeId × List Value} {H H1 H' : AHeap} {b : Nat} {l : List Pr} (r : MdlT t H b l) (s : Still H H1) (f : UpT t H1 b H') : UpT t H b H' := by
  obtain ⟨v, h1, h2, h3, h4⟩ := r
  refine ⟨s.still.then (S := MBT t H b) f.fr fun c hc h => MB_still h1 h2 s c hc h, fun c hc => ?_⟩
  rcases f.mb c hc with h | h
  · rcases Nat.lt_or_ge c H.n with h' | h'
    · exact .inl (MB_still h1 h2 s c h' h)
    · exact .inr h'
  · exact .inr (Nat.le_trans s.n h)

/-- What is told of a map behind a call that may have turned it: where the call is forgotten, nothing was. -/
theorem Mdl.tidied {t : TypeId × List Value} {H H' : AHeap} {b : Nat} {l l' : List Pr} {v : Value} (ok : Ok H) (r : MdlT t H b l) (hm : MdlT t H' b l') (hfr : UpT t H b H') : ∃ H'', tidy H (v, H') = (v, H'') ∧ MdlT t H'' b l' ∧ UpT t H b H'' := by
  unfold tidy
  split
  · rename_i hg
    simp only [Bool.and_eq_true] at hg
    refine ⟨H, rfl, ?_, UpT.refl H b⟩
    obtain ⟨v, h1, h2, h3, h4⟩ := r
    obtain ⟨v', h1', h2', h3', h4'⟩ := hm
    have hsame : ∀ c, c < H.n → H'.f c = H.f c := by
      intro c hc
      rcases hfr.fr.old c hc with h | ⟨h, _⟩
      · exact h.2
      · have := List.all_eq_true.1 hg.2 c (by simpa using hc)
        have := ok c
        simp at *
        omega
    rw [hsame b h2, h1] at h1'
    cases h1'
    refine ⟨v, h1, h2, ?_, h4⟩
    rcases h3' with h | ⟨hl, x, hv, hs, hb⟩ | ⟨bb, o, c, xs, hv, hlc, hb, hff, ho, hx⟩
    · exact .inl h
    · exact .inr (.inl ⟨hl, x, hv, hs, h3.blk (by rw [hv]; rfl)⟩)
    · have hbb : bb < H.n := h3.blk (by rw [hv]; rfl)
      exact .inr (.inr ⟨bb, o, c, xs, hv, hlc, hbb, by rw [← hsame bb hbb]; exact hff, ho, hx⟩)
  · exact ⟨H', rfl, hm, hfr⟩

theorem q_Put {t : TypeId × List Value} (b : Nat) (l : List Pr) (a : Pr) (H : AHeap) (ok : Ok H) (r : MdlT t H b l) (hl : l.length ≤ 20000) (p : Nat) (hp : PosP l a.key p) (hc : chk a.key [a.value] = 0) :
    ∃ H', CC F.model_Model_Put [.pointer (some ⟨b, 0, none⟩), .string a.key, .string a.value] H = some (.int .i64 (putP l a p).1, H') ∧ MdlT t H' b (putP l a p).2 ∧ UpT t H b H' := by
  have s1 : Still H (H.push (.cells [.string a.value] T.string true)) := (Fr.refl H).push _
  have r1 := r.still s1
  have hat := q_at b l a.key [a.value] _ _ r1 (by omega) p hp (rdOne a.value H) (by simp) hc
  obtain ⟨H', hset, hm, hf⟩ := q_set b l a p _ (ok.fr s1) r1 hp.1 hl
  have hfr := after_push r s1 hf
  obtain ⟨H'', ht, hm', hf'⟩ := Mdl.tidied (v := .int .i64 (putP l a p).1) ok r hm hfr
  refine ⟨H'', (d_model_Model_Put _ _ _ H (r := (.int .i64 (putP l a p).1, H')) ?_).trans (congrArg some ht), hm', hf'⟩
  simp (disch := first | with_reducible rfl | assumption | omega | rfl | (simp only [go_sem]; first | done | omega)) only [go_sem, ↓reduceIte, reduceCtorEq, Nat.reduceEqDiff, Nat.reduceAdd, Nat.reduceSub, Nat.reduceMul, Nat.reduceDiv, Nat.reduceMod, Nat.reduceLeDiff, Nat.reduceLT, Nat.reduceBEq, Int.reduceEq, Int.reduceBEq, Int.reduceBNe, Int.reduceLT, Int.reduceLE, Int.reduceAdd, Int.reduceSub, Int.reduceNeg, Int.reduceToNat, Int.reducePow, Nat.reducePow, Int.reduceMul, Int.reduceDiv, ↓s_model_Model_Put, ↓enterK_eq hat, enterK_eq hat, ↓enterK_eq hset, enterK_eq hset]

/-- What Insert makes of a map. -/
def insertP (l : List Pr) (a : Pr) (p : Nat) : Int × List Pr :=
  if isP l a.key p = true then (11, l) else if l.length = 20000 then (7, l) else (0, l.take p ++ a :: l.drop p)

theorem q_Delete_bad (b : Nat) (key : ByteArray) (H : AHeap) (hc : chk key [] ≠ 0) : CC F.model_Model_Delete [.pointer (some ⟨b, 0, none⟩), .string key] H = some (.tuple #[.string (mk []), .int .i64 (chk key [])], H) := by
  have hg := q_Get_bad b key H hc
  generalize chk key [] = e at hg hc
  apply pure_of _ (d_model_Model_Delete _ _ H) rfl
  rotate_left 2
  · simp (disch := first | with_reducible rfl | assumption | omega | rfl | (simp only [go_sem]; first | done | omega)) only [go_sem, ↓reduceIte, reduceCtorEq, Nat.reduceEqDiff, Nat.reduceAdd, Nat.reduceSub, Nat.reduceMul, Nat.reduceDiv, Nat.reduceMod, Nat.reduceLeDiff, Nat.reduceLT, Nat.reduceBEq, Int.reduceEq, Int.reduceBEq, Int.reduceBNe, Int.reduceLT, Int.reduceLE, Int.reduceAdd, Int.reduceSub, Int.reduceNeg, Int.reduceToNat, Int.reducePow, Nat.reducePow, Int.reduceMul, Int.reduceDiv, ↓s_model_Model_Delete, ↓enterK_eq hg, enterK_eq hg, hc]
    rfl
  · (repeat (first | exact Fr.refl _ | refine Fr.push ?_ _ | refine Fr.set ?_ _ _ (by intro h; first | omega | (simp only [go_sem] at h; omega))))

theorem q_Delete {t : TypeId × List Value} (b : Nat) (l : List Pr) (key : ByteArray) (H : AHeap) (ok : Ok H) (r : MdlT t H b l) (hl : l.length ≤ 20000) (p : Nat) (hp : PosP l key p) (hc : chk key [] = 0) :
    ∃ H', CC F.model_Model_Delete [.pointer (some ⟨b, 0, none⟩), .string key] H = some (getP l key p, H') ∧ MdlT t H' b (if isP l key p = true then l.take p ++ l.drop (p + 1) else l) ∧ UpT t H b H' := by
  have hg := q_Get b l key H r (by omega) p hp hc
  unfold getP at hg ⊢
  cases his : isP l key p with
  | false =>
    rw [his] at hg
    simp only [Bool.false_eq_true, if_false] at hg ⊢
    refine ⟨H, ?_, r, UpT.refl H b⟩
    apply pure_of _ (d_model_Model_Delete _ _ H) rfl
    rotate_left 2
    · simp (disch := first | with_reducible rfl | assumption | omega | rfl | (simp only [go_sem]; first | done | omega)) only [go_sem, ↓reduceIte, reduceCtorEq, Nat.reduceEqDiff, Nat.reduceAdd, Nat.reduceSub, Nat.reduceMul, Nat.reduceDiv, Nat.reduceMod, Nat.reduceLeDiff, Nat.reduceLT, Nat.reduceBEq, Int.reduceEq, Int.reduceBEq, Int.reduceBNe, Int.reduceLT, Int.reduceLE, Int.reduceAdd, Int.reduceSub, Int.reduceNeg, Int.reduceToNat, Int.reducePow, Nat.reducePow, Int.reduceMul, Int.reduceDiv, ↓s_model_Model_Delete, ↓enterK_eq hg, enterK_eq hg]
      rfl
    · (repeat (first | exact Fr.refl _ | refine Fr.push ?_ _ | refine Fr.set ?_ _ _ (by intro h; first | omega | (simp only [go_sem] at h; omega))))
  | true =>
    have hlt := isP_lt his
    have hpl := q_place b l key H r (by omega) p hp
    rw [his] at hg
    simp only [if_true] at hg ⊢
    generalize (l[p]?).elim (mk []) Pr.value = old at hg ⊢
    obtain ⟨v, h1, h2, h3, h4⟩ := r
    obtain ⟨v6, H4, hdel, ho6, fr4, hb6⟩ := q_delete_Pair l v p H h3 (by omega) hlt
    have hone6 : Eng.one v6 = true := ho6.cell
    have fb4 : H4.f b = .cells (v :: t.2) t.1 true := by rw [fr4.f h2 h4, h1]
    have n4 : H.n ≤ H4.n := fr4.n
    generalize hH5 : H4.set b (.cells (v6 :: t.2) t.1 true) = H5
    have f5 : Fr (MBT t H b) H H5 := by
      rw [← hH5]
      refine Fr.set ?_ b _ (fun _ => .inl rfl)
      exact fr4.mono fun c _ h => .inr ⟨v, h1, h⟩
    have hup : UpT t H b H5 := UpT.of h1 f5 (v' := v6) (by rw [← hH5]; exact set_f_eq) fun c hc => .inl (by rw [← hb6]; exact hc)
    refine ⟨H5, (d_model_Model_Delete _ _ H (r := (.tuple #[.string old, .int .i64 0], H5)) ?_).trans (congrArg some (tidy_turned h2 (ok b) ?_)), ?_, hup⟩
    · simp (disch := first | with_reducible rfl | assumption | omega | rfl | (simp only [go_sem]; first | done | omega)) only [go_sem, ↓reduceIte, reduceCtorEq, Nat.reduceEqDiff, Nat.reduceAdd, Nat.reduceSub, Nat.reduceMul, Nat.reduceDiv, Nat.reduceMod, Nat.reduceLeDiff, Nat.reduceLT, Nat.reduceBEq, Int.reduceEq, Int.reduceBEq, Int.reduceBNe, Int.reduceLT, Int.reduceLE, Int.reduceAdd, Int.reduceSub, Int.reduceNeg, Int.reduceToNat, Int.reducePow, Nat.reducePow, Int.reduceMul, Int.reduceDiv, ↓s_model_Model_Delete, ↓enterK_eq hg, enterK_eq hg, ↓enterK_eq hpl, enterK_eq hpl, h1, ↓enterK_eq hdel, enterK_eq hdel, fb4, hH5]
    · rw [← hH5, set_v_eq]
      exact fr4.clk
    · refine ⟨v6, by rw [← hH5]; exact set_f_eq, by rw [← hH5]; simp; omega, ?_, by rw [hb6]; exact h4⟩
      rw [← hH5]
      refine ho6.keep (S := fun x => x = b) (Fr.set (Fr.refl H4) b _ fun _ => rfl) ?_
      intro c hc h
      rw [hb6, h] at hc
      exact h4 hc

end Go.Proofs.Ythjjkinpbpealaa

/-
  The plain map: Swap, Range, Min, Max, Len, Pairs, Copy, Equal, Of.
  Conditions: none. By an AI agent.
-/
set_option maxRecDepth 10000
set_option linter.unusedSimpArgs false
set_option linter.unusedVariables false
namespace Go.Proofs.Ythjjkinpbpealaa
open Go Eng

@[go_sem] theorem xload_Pair {a : Value} {H : AHeap} : xload Try.prog T.api_Pair a H = ldN 2 H a := by kernel_rfl
theorem pair_ne {ox oy : Operand} {a b : Pr} : xbin Try.prog .neq T.api_Pair ox oy (.agg #[.string a.key, .string a.value]) (.agg #[.string b.key, .string b.value]) = some (.bool (!(decide (bl a.key = bl b.key) && decide (bl a.value = bl b.value)))) := by
  have h := agg_ne (P := Try.prog) (t := T.api_Pair) (xs := [.string a.key, .string a.value]) (ys := [.string b.key, .string b.value]) (ox := ox) (oy := oy) Try.underlying47 (by kernel_rfl) (by kernel_rfl) (by kernel_rfl) rfl rfl
  rw [h]
  simp [ceqs, ceq]
theorem pair_eq {ox oy : Operand} {a b : Pr} : xbin Try.prog .eql T.api_Pair ox oy (.agg #[.string a.key, .string a.value]) (.agg #[.string b.key, .string b.value]) = some (.bool (decide (bl a.key = bl b.key) && decide (bl a.value = bl b.value))) := by
  have h := agg_eq (P := Try.prog) (t := T.api_Pair) (xs := [.string a.key, .string a.value]) (ys := [.string b.key, .string b.value]) (ox := ox) (oy := oy) Try.underlying47 (by kernel_rfl) (by kernel_rfl) (by kernel_rfl) rfl rfl
  rw [h]
  simp [ceqs, ceq]
theorem pr_ext {a b : Pr} : a = b ↔ bl a.key = bl b.key ∧ bl a.value = bl b.value := by
  constructor
  · rintro rfl; exact ⟨rfl, rfl⟩
  · rintro ⟨h1, h2⟩
    cases a; cases b
    simp only at h1 h2
    rw [bl_inj h1, bl_inj h2]

/-! ### Swap -/
theorem rdTwo (a c : ByteArray) (H : AHeap) : Rd EStr (H.push (.cells [.string a, .string c] T.string true)) (.slice (some ⟨H.n, 0, none⟩) 2 4) [a, c] := by
  refine .inr (.inr ⟨H.n, 0, 4, rfl, by simp, by simp, ?_⟩)
  rw [push_f_eq rfl]
  rfl

/-- What Swap makes of a map. -/
def swapP (l : List Pr) (key old new : ByteArray) (p : Nat) : Int × List Pr :=
  if isP l key p = true then (if bl ((l[p]?).elim (mk []) Pr.value) = bl old then (0, l.set p ⟨key, new⟩) else (11, l)) else (9, l)

/-! ### Len, Pairs, Copy, Min, Max -/
theorem q_Len {t : TypeId × List Value} (b : Nat) (l : List Pr) (H : AHeap) (r : MdlT t H b l) : CC F.model_Model_Len [.pointer (some ⟨b, 0, none⟩)] H = some (.int .i64 l.length, H) := by
  obtain ⟨v, h1, h2, h3, h4⟩ := r
  have hlen := h3.rd.lenS
  apply pure_of _ (d_model_Model_Len _ H) rfl
  rotate_left 2
  · simp (disch := first | with_reducible rfl | assumption | omega | rfl | (simp only [go_sem]; first | done | omega)) only [go_sem, ↓reduceIte, reduceCtorEq, Nat.reduceEqDiff, Nat.reduceAdd, Nat.reduceSub, Nat.reduceMul, Nat.reduceDiv, Nat.reduceMod, Nat.reduceLeDiff, Nat.reduceLT, Nat.reduceBEq, Int.reduceEq, Int.reduceBEq, Int.reduceBNe, Int.reduceLT, Int.reduceLE, Int.reduceAdd, Int.reduceSub, Int.reduceNeg, Int.reduceToNat, Int.reducePow, Nat.reducePow, Int.reduceMul, Int.reduceDiv, ↓s_model_Model_Len, mp_some, h1, hlen]
    rfl
  · (repeat (first | exact Fr.refl _ | refine Fr.push ?_ _ | refine Fr.set ?_ _ _ (by intro h; first | omega | (simp only [go_sem] at h; omega))))

/-- A slice whose block, if it has one, is new. -/
def New (H : AHeap) (v : Value) : Prop := ∀ b, blockOf v = some b → H.n ≤ b

theorem own_tidied {H H' : AHeap} {v : Value} {l : List Pr} (ho : Own EPr H' T.api_Pair v l) (hs : Still H H') (hn : New H v) {x : Res} (hx : x = some (tidy H (v, H'))) :
    ∃ H'', x = some (v, H'') ∧ Own EPr H'' T.api_Pair v l ∧ Still H H'' ∧ New H v := by
  unfold tidy at hx
  split at hx
  · rename_i hg
    simp only [Bool.and_eq_true] at hg
    refine ⟨H, hx, ?_, Fr.refl _, hn⟩
    rcases ho with h | ⟨_, a, h, _⟩ | ⟨b, o, c, xs, h, _⟩
    · exact .inl h
    · rw [h] at hg; exact absurd hg.1 (by simp [gr])
    · rw [h] at hg; exact absurd hg.1 (by simp [gr])
  · exact ⟨H', hx, ho, hs, hn⟩

theorem q_Pairs {t : TypeId × List Value} (b : Nat) (l : List Pr) (H : AHeap) (r : MdlT t H b l) (hl : l.length ≤ 1000000000000) :
    ∃ v' H', CC F.model_Model_Pairs [.pointer (some ⟨b, 0, none⟩)] H = some (v', H') ∧ Own EPr H' T.api_Pair v' l ∧ Still H H' ∧ New H v' := by
  obtain ⟨v, h1, h2, h3, h4⟩ := r
  obtain ⟨v', H', hcl, ho, hs, hn⟩ := q_clone_Pair l v H h3.rd hl
  obtain ⟨H'', h⟩ := own_tidied ho hs hn (d_model_Model_Pairs (.pointer (some ⟨b, 0, none⟩)) H (r := (v', H')) (by simp (disch := first | with_reducible rfl | assumption | omega | rfl | (simp only [go_sem]; first | done | omega)) only [go_sem, ↓reduceIte, reduceCtorEq, Nat.reduceEqDiff, Nat.reduceAdd, Nat.reduceSub, Nat.reduceMul, Nat.reduceDiv, Nat.reduceMod, Nat.reduceLeDiff, Nat.reduceLT, Nat.reduceBEq, Int.reduceEq, Int.reduceBEq, Int.reduceBNe, Int.reduceLT, Int.reduceLE, Int.reduceAdd, Int.reduceSub, Int.reduceNeg, Int.reduceToNat, Int.reducePow, Nat.reducePow, Int.reduceMul, Int.reduceDiv, ↓s_model_Model_Pairs, mp_some, h1, ↓enterK_eq hcl, enterK_eq hcl]))
  exact ⟨v', H'', h⟩

theorem q_MCopy {t : TypeId × List Value} (b : Nat) (l : List Pr) (H : AHeap) (r : MdlT t H b l) (hl : l.length ≤ 1000000000000) :
    ∃ b' H', CC F.model_Model_Copy [.pointer (some ⟨b, 0, none⟩)] H = some (.pointer (some ⟨b', 0, none⟩), H') ∧ MdlT (T.model_Model, []) H' b' l ∧ Still H H' ∧ H.n ≤ b' ∧ (∀ c, MBT (T.model_Model, []) H' b' c → H.n ≤ c) := by
  obtain ⟨v, h1, h2, h3, h4⟩ := r
  obtain ⟨v5, H2, hcl, ho5, s2, hn5⟩ := q_clone_Pair l v H h3.rd hl
  have n2 : H.n ≤ H2.n := s2.n
  refine ⟨H2.n, H2.push (.cells [v5] T.model_Model true), (d_model_Model_Copy _ H (r := (.pointer (some ⟨H2.n, 0, none⟩), _)) ?_).trans (congrArg some (tidy_mem rfl)), ?_, s2.push _, n2, ?_⟩
  · obtain ⟨a, n, c, hv5⟩ : ∃ a n c, v5 = .slice a n c := by
      rcases ho5 with ⟨_, h⟩ | ⟨_, a, h, _⟩ | ⟨b, o, c, xs, h, _⟩ <;> exact ⟨_, _, _, h⟩
    subst hv5
    simp (disch := first | with_reducible rfl | assumption | omega | rfl | (simp only [go_sem]; first | done | omega)) only [go_sem, ↓reduceIte, reduceCtorEq, Nat.reduceEqDiff, Nat.reduceAdd, Nat.reduceSub, Nat.reduceMul, Nat.reduceDiv, Nat.reduceMod, Nat.reduceLeDiff, Nat.reduceLT, Nat.reduceBEq, Int.reduceEq, Int.reduceBEq, Int.reduceBNe, Int.reduceLT, Int.reduceLE, Int.reduceAdd, Int.reduceSub, Int.reduceNeg, Int.reduceToNat, Int.reducePow, Nat.reducePow, Int.reduceMul, Int.reduceDiv, ↓s_model_Model_Copy, mp_some, h1, ↓enterK_eq hcl, enterK_eq hcl]
  · refine ⟨v5, push_f_eq rfl, by simp, ho5.still ((Fr.refl _).push _), fun h => by have := ho5.blk h; omega⟩
  · intro c h
    rcases h with h | ⟨u, hu, hb⟩
    · omega
    · rw [push_f_eq rfl] at hu
      cases hu
      exact hn5 c hb

/-- The first pair, the last pair. -/
def endV (a : Option Pr) : Value := match a with | some a => .tuple #[.agg #[.string a.key, .string a.value], .int .i64 0] | none => .tuple #[.agg #[.string (mk []), .string (mk [])], .int .i64 9]

end Go.Proofs.Ythjjkinpbpealaa

/-
  The order of strings.
  Conditions: none. By an AI agent.
-/
set_option maxRecDepth 10000
set_option linter.unusedSimpArgs false
set_option linter.unusedVariables false
namespace Go.Proofs.Ythjjkinpbpealaa
open Go Eng

theorem u8_lt {a b : UInt8} : a < b ↔ a.toNat < b.toNat := UInt8.lt_iff_toNat_lt
theorem u8_eq {a b : UInt8} : a = b ↔ a.toNat = b.toNat := UInt8.toNat_inj.symm

theorem cb_eq : ∀ {a b : List UInt8}, Lib.compareBytes a b = 0 ↔ a = b
  | [], [] => by simp [Lib.compareBytes]
  | [], _ :: _ => by simp [Lib.compareBytes]
  | _ :: _, [] => by simp [Lib.compareBytes]
  | a :: x, b :: y => by
    unfold Lib.compareBytes
    by_cases h1 : a < b
    · have := u8_lt.1 h1
      simp only [if_pos h1]
      constructor
      · intro h; cases h
      · intro h; cases h; omega
    · by_cases h2 : b < a
      · have := u8_lt.1 h2
        simp only [if_neg h1, if_pos h2]
        constructor
        · intro h; cases h
        · intro h; cases h; omega
      · have h3 : a = b := u8_eq.2 (by rw [u8_lt] at h1 h2; omega)
        subst h3
        simp only [if_neg h1]
        rw [cb_eq]
        simp
theorem cb_lt : ∀ {a b : List UInt8}, Op.bytesLess a b = true ↔ Lib.compareBytes a b < 0
  | [], [] => by simp [Lib.compareBytes, Op.bytesLess]
  | [], _ :: _ => by simp [Lib.compareBytes, Op.bytesLess]
  | _ :: _, [] => by simp [Lib.compareBytes, Op.bytesLess]
  | a :: x, b :: y => by
    unfold Lib.compareBytes
    rw [Op.bytesLess, Bool.or_eq_true, Bool.and_eq_true, cb_lt]
    by_cases h1 : a < b
    · simp [h1]
    · by_cases h2 : b < a
      · have h3 : ¬ a = b := fun h => by subst h; exact h1 h2
        simp [h1, h2, h3]
      · have h3 : a = b := u8_eq.2 (by rw [u8_lt] at h1 h2; omega)
        subst h3
        simp [h1]
theorem cb_swap : ∀ {a b : List UInt8}, Lib.compareBytes b a = - Lib.compareBytes a b
  | [], [] => by simp [Lib.compareBytes]
  | [], _ :: _ => by simp [Lib.compareBytes]
  | _ :: _, [] => by simp [Lib.compareBytes]
  | a :: x, b :: y => by
    unfold Lib.compareBytes
    by_cases h1 : a < b
    · have h2 : ¬ b < a := by rw [u8_lt] at h1 ⊢; omega
      simp [h1, h2]
    · by_cases h2 : b < a
      · simp [h1, h2]
      · simp only [if_neg h1, if_neg h2]
        exact cb_swap
theorem cb_trans : ∀ {a b c : List UInt8}, Lib.compareBytes a b < 0 → Lib.compareBytes b c < 0 → Lib.compareBytes a c < 0
  | _, b, [], _, h => by cases b <;> simp [Lib.compareBytes] at h
  | a, [], _ :: _, h, _ => by cases a <;> simp [Lib.compareBytes] at h
  | [], _ :: _, _ :: _, _, _ => by simp [Lib.compareBytes]
  | a :: x, b :: y, c :: z, h1, h2 => by
    rw [Lib.compareBytes] at h1 h2 ⊢
    by_cases p : a < b
    · by_cases q : b < c
      · have : a < c := by rw [u8_lt] at p q ⊢; omega
        rw [if_pos this]; decide
      · rw [if_neg q] at h2
        by_cases q' : c < b
        · rw [if_pos q'] at h2; cases h2
        · have : a < c := by rw [u8_lt] at p q q' ⊢; omega
          rw [if_pos this]; decide
    · rw [if_neg p] at h1
      by_cases p' : b < a
      · rw [if_pos p'] at h1; cases h1
      · rw [if_neg p'] at h1
        have e : a = b := u8_eq.2 (by rw [u8_lt] at p p'; omega)
        subst e
        by_cases q : a < c
        · rw [if_pos q]; decide
        · rw [if_neg q] at h2 ⊢
          by_cases q' : c < a
          · rw [if_pos q'] at h2; cases h2
          · rw [if_neg q'] at h2 ⊢
            exact cb_trans h1 h2

theorem cmpS_self (a : ByteArray) : cmpS a a = 0 := cb_eq.2 rfl
theorem bl_inj {a b : ByteArray} (h : bl a = bl b) : a = b := by
  cases a; cases b; unfold bl at h
  congr 1
  exact Array.toList_inj.1 h
theorem cmpS_eq {a b : ByteArray} : cmpS a b = 0 ↔ a = b := ⟨fun h => bl_inj (cb_eq.1 h), fun h => by subst h; exact cmpS_self a⟩
theorem cmpS_swap (a b : ByteArray) : cmpS b a = - cmpS a b := cb_swap
theorem cmpS_trans {a b c : ByteArray} : cmpS a b < 0 → cmpS b c < 0 → cmpS a c < 0 := cb_trans
theorem less_cmpS (a b : ByteArray) : Op.bytesLess (bl a) (bl b) = decide (cmpS a b < 0) := by
  rw [Bool.eq_iff_iff, cb_lt, decide_eq_true_iff]; rfl
theorem leq_cmpS (a b : ByteArray) : (Op.bytesLess (bl a) (bl b) || bl a == bl b) = decide (cmpS a b ≤ 0) := by
  rw [Bool.eq_iff_iff, Bool.or_eq_true, cb_lt, decide_eq_true_iff, beq_iff_eq, ← cb_eq]
  show (cmpS a b < 0 ∨ cmpS a b = 0) ↔ _
  omega

end Go.Proofs.Ythjjkinpbpealaa

/-
  The plain map: Range, Equal, Of.
  Conditions: none. By an AI agent.
-/
set_option maxRecDepth 10000
set_option linter.unusedSimpArgs false
set_option linter.unusedVariables false
namespace Go.Proofs.Ythjjkinpbpealaa
open Go Eng

/-- A part in the middle that is only read. -/
theorem Own.mid {α : Type} {E : Enc α} {H : AHeap} {e : TypeId} {v : Value} {l : List α} (r : Own E H e v l) {sz : Nat} (hsz : sz = E.w) {i j : Nat} (hi : i ≤ j) (hj : j ≤ l.length) {q q' : IntKind} :
    ∃ v', slS e sz v (some (.int q (i : Int))) (some (.int q' (j : Int))) none H = some v' ∧ Rd E H v' ((l.drop i).take (j - i)) := by
  subst hsz
  rcases r with ⟨rfl, rfl⟩ | ⟨rfl, ⟨b, o, s⟩, rfl, hs, hbb⟩ | ⟨b, o, c, xs, rfl, hl, hbn, hf, ho, hx⟩
  · simp only [List.length_nil, Nat.le_zero_eq] at hj
    subst hj
    simp only [Nat.le_zero_eq] at hi
    subst hi
    exact ⟨.slice none 0 0, rfl, .inl ⟨by simp, rfl⟩⟩
  · simp only at hs
    subst hs
    simp only [List.length_nil, Nat.le_zero_eq] at hj
    subst hj
    simp only [Nat.le_zero_eq] at hi
    subst hi
    exact ⟨.slice (some ⟨b, o, none⟩) 0 0, by simp [slS, lowOf, highOf, bnd], .inr (.inl ⟨by simp, _, _, rfl, rfl⟩)⟩
  · have hmul := Nat.mul_le_mul_right E.w hl
    have hmj := Nat.mul_le_mul_right E.w hj
    have hmi := Nat.mul_le_mul_right E.w hi
    refine ⟨_, sl_lohi hf hi (Nat.le_trans hj hl), ?_⟩
    have hlen : ((l.drop i).take (j - i)).length = j - i := by simp; omega
    by_cases h0 : j - i = 0
    · rw [h0]; exact .inr (.inl ⟨by simp, _, _, rfl, rfl⟩)
    · refine .inr (.inr ⟨b, _, _, by rw [hlen], fun h => h0 (by rw [← hlen, h]; rfl), hbn, ?_⟩)
      have hsub : (j - i) * E.w = j * E.w - i * E.w := Nat.sub_mul _ _ _
      rw [hlen, hf, cutB_c (by omega), ← E.cells_take, ← E.cells_drop, ← hx, List.drop_take, List.take_take, List.drop_drop, Nat.min_eq_left (by omega)]

/-- The same where the value stands in a tuple behind a number. -/
theorem own_tidied2 {H H' : AHeap} {v : Value} {l : List Pr} {n : Int} (ho : Own EPr H' T.api_Pair v l) (hs : Still H H') (hn : New H v) {x : Res} (hx : x = some (tidy H (.tuple #[v, .int .i64 n], H'))) :
    ∃ H'', x = some (.tuple #[v, .int .i64 n], H'') ∧ Own EPr H'' T.api_Pair v l ∧ Still H H'' := by
  unfold tidy at hx
  split at hx
  · rename_i hg
    simp only [Bool.and_eq_true] at hg
    refine ⟨H, hx, ?_, Fr.refl _⟩
    rcases ho with h | ⟨_, a, h, _⟩ | ⟨b, o, c, xs, h, _⟩
    · exact .inl h
    · rw [h] at hg; exact absurd hg.1 (by simp [gr])
    · rw [h] at hg; exact absurd hg.1 (by simp [gr])
  · exact ⟨H', hx, ho, hs⟩

/-- What Range answers. -/
def rangeP (l : List Pr) (p q n : Nat) : List Pr := (l.drop p).take (min q (p + n) - p)

end Go.Proofs.Ythjjkinpbpealaa

/-
  The plain map: Equal, Of.
  Conditions: none. By an AI agent.
-/
set_option maxRecDepth 10000
set_option linter.unusedSimpArgs false
set_option linter.unusedVariables false
namespace Go.Proofs.Ythjjkinpbpealaa
open Go Eng

instance : DecidableEq Pr := fun a b => decidable_of_iff (bl a.key = bl b.key ∧ bl a.value = bl b.value) pr_ext.symm
theorem pair_ne' {ox oy : Operand} {a b : Pr} : xbin Try.prog .neq T.api_Pair ox oy (.agg #[.string a.key, .string a.value]) (.agg #[.string b.key, .string b.value]) = some (.bool (!decide (a = b))) := by
  rw [pair_ne, ← Bool.decide_and, decide_eq_decide.2 pr_ext]
theorem pair_eq' {ox oy : Operand} {a b : Pr} : xbin Try.prog .eql T.api_Pair ox oy (.agg #[.string a.key, .string a.value]) (.agg #[.string b.key, .string b.value]) = some (.bool (decide (a = b))) := by
  rw [pair_eq, ← Bool.decide_and, decide_eq_decide.2 pr_ext]

theorem drop_cons {α : Type} {l x : List α} {a : α} {i : Nat} (h : l.drop i = a :: x) : ∃ hi : i < l.length, l[i] = a ∧ l.drop (i + 1) = x := by
  have hi : i < l.length := by
    rcases Nat.lt_or_ge i l.length with h' | h'
    · exact h'
    · rw [List.drop_eq_nil_of_le h'] at h; cases h
  rw [List.drop_eq_getElem_cons hi] at h
  exact ⟨hi, (List.cons.inj h).1, (List.cons.inj h).2⟩

/-! ### Of -/
/-- The error of a list of pairs: of the pairs behind the one before. -/
def ofErr : Option Pr → List Pr → Int
  | _, [] => 0
  | o, a :: l => if chk a.key [a.value] ≠ 0 then chk a.key [a.value] else if (o.elim false fun b => decide (0 ≤ cmpS b.key a.key)) = true then 13 else ofErr (some a) l


end Go.Proofs.Ythjjkinpbpealaa

/-
  Sorted lists of pairs: where a key is.
  Conditions: none. By an AI agent.
-/
set_option maxRecDepth 10000
set_option linter.unusedSimpArgs false
set_option linter.unusedVariables false
namespace Go.Proofs.Ythjjkinpbpealaa
open Go Eng

/-- Sorted, each key once. -/
def Srt (l : List Pr) : Prop := l.Pairwise fun a b => cmpS a.key b.key < 0

/-- Where a key is, or would be. -/
def posP : List Pr → ByteArray → Nat
  | [], _ => 0
  | a :: l, key => if cmpS a.key key < 0 then posP l key + 1 else 0

theorem posP_le : ∀ (l : List Pr) (key : ByteArray), posP l key ≤ l.length
  | [], _ => Nat.le_refl _
  | a :: l, key => by
    rw [posP]
    have := posP_le l key
    split <;> simp <;> omega

theorem cmpS_le_lt {a b c : ByteArray} (h1 : ¬ cmpS a b < 0) (h2 : cmpS a c < 0) : cmpS b c < 0 := by
  by_cases h : cmpS a b = 0
  · rw [← cmpS_eq.1 h]; exact h2
  · have h3 : cmpS b a < 0 := by rw [cmpS_swap]; omega
    exact cmpS_trans h3 h2

theorem posP_pos : ∀ {l : List Pr} (_ : Srt l) (key : ByteArray), PosP l key (posP l key)
  | [], _, key => ⟨Nat.le_refl _, fun i h => absurd h (by simp), fun i h => absurd h (by simp)⟩
  | a :: l, hs, key => by
    obtain ⟨ha, hl⟩ := List.pairwise_cons.1 hs
    obtain ⟨h1, h2, h3⟩ := posP_pos hl key
    rw [posP]
    by_cases h : cmpS a.key key < 0
    · rw [if_pos h]
      refine ⟨by simp; omega, fun i hi hp => ?_, fun i hi hp => ?_⟩
      · cases i with
        | zero => exact h
        | succ i => exact h2 i (by simpa using hi) (by omega)
      · cases i with
        | zero => omega
        | succ i => exact h3 i (by simpa using hi) (by omega)
    · rw [if_neg h]
      refine ⟨by simp, fun i hi hp => by omega, fun i hi hp => ?_⟩
      cases i with
      | zero => exact h
      | succ i =>
        intro hc
        have hb := ha _ (List.getElem_mem (by simpa using hi : i < l.length))
        exact h (cmpS_trans hb hc)

/-- Is a key there? -/
def hasP (l : List Pr) (key : ByteArray) : Bool := isP l key (posP l key)

theorem isP_eq {l : List Pr} {key : ByteArray} {p : Nat} (h : isP l key p = true) : ∃ hp : p < l.length, l[p].key = key := by
  unfold isP at h
  cases hg : l[p]? with
  | none => rw [hg] at h; cases h
  | some a =>
    rw [hg] at h
    obtain ⟨hp, rfl⟩ := List.getElem?_eq_some_iff.1 hg
    exact ⟨hp, cmpS_eq.1 (by simpa using h)⟩

theorem mem_pos {l : List Pr} (hs : Srt l) {i : Nat} (hi : i < l.length) : posP l l[i].key = i := by
  obtain ⟨h1, h2, h3⟩ := posP_pos hs l[i].key
  rcases Nat.lt_trichotomy (posP l l[i].key) i with h | h | h
  · have hlt : posP l l[i].key < l.length := by omega
    have := List.pairwise_iff_getElem.1 hs _ _ hlt hi h
    exact absurd this (h3 _ hlt (Nat.le_refl _))
  · exact h
  · have := h2 i hi h
    rw [cmpS_self] at this
    omega

theorem isP_self {l : List Pr} (hs : Srt l) {i : Nat} (hi : i < l.length) : isP l l[i].key (posP l l[i].key) = true := by
  rw [mem_pos hs hi]
  unfold isP
  rw [List.getElem?_eq_getElem hi]
  simp [cmpS_self]

/-- What a search for an equal key finds: on a sorted list, the place. -/
def findP : List Pr → ByteArray → Nat → Int
  | [], _, _ => -1
  | a :: l, key, i => if bl a.key = bl key then i else findP l key (i + 1)

theorem findP_none : ∀ (l : List Pr) (key : ByteArray) (i : Nat), (∀ a ∈ l, ¬ a.key = key) → findP l key i = -1
  | [], _, _, _ => rfl
  | a :: l, key, i, h => by
    rw [findP, if_neg fun he => h a (by simp) (bl_inj he), findP_none l key (i + 1) fun b hb => h b (by simp [hb])]

theorem findP_some : ∀ (l : List Pr) (key : ByteArray) (i k : Nat) (hk : k < l.length), l[k].key = key → (∀ (j : Nat) (hj : j < l.length), j < k → ¬ l[j].key = key) → findP l key i = ((i + k : Nat) : Int)
  | [], _, _, k, hk, _, _ => absurd hk (by simp)
  | a :: l, key, i, 0, _, h, _ => by
    rw [findP, if_pos (by rw [← h]; rfl)]
    simp
  | a :: l, key, i, k + 1, hk, h, hn => by
    rw [findP, if_neg fun he => hn 0 (by simp) (by omega) (bl_inj he), findP_some l key (i + 1) k (by simpa using hk) h fun j hj hjk => hn (j + 1) (by simpa using hj) (by omega)]
    omega

theorem findP_eq {l : List Pr} (hs : Srt l) (key : ByteArray) : findP l key 0 = if isP l key (posP l key) = true then (posP l key : Int) else -1 := by
  by_cases h : isP l key (posP l key) = true
  · rw [if_pos h]
    obtain ⟨hp, he⟩ := isP_eq h
    have := findP_some l key 0 (posP l key) hp he fun j hj hjk hej => by
      have := mem_pos hs hj
      rw [hej] at this
      omega
    rw [this]; simp
  · rw [if_neg h]
    refine findP_none l key 0 fun a ha hak => h ?_
    obtain ⟨i, hi, rfl⟩ := List.getElem_of_mem ha
    rw [← hak]
    exact isP_self hs hi

/-! ### What stays sorted -/
theorem srt_set {l : List Pr} (hs : Srt l) {p : Nat} {a : Pr} (h : isP l a.key p = true) : Srt (l.set p a) := by
  obtain ⟨hp, he⟩ := isP_eq h
  refine List.pairwise_iff_getElem.2 fun i j hi hj hij => ?_
  have hk : ∀ (i : Nat) (hi : i < (l.set p a).length), (l.set p a)[i].key = (l[i]'(by simpa using hi)).key := by
    intro i hi
    rw [List.getElem_set]
    split
    · rename_i h'; subst h'; exact he.symm
    · rfl
  rw [hk i hi, hk j hj]
  exact List.pairwise_iff_getElem.1 hs _ _ _ _ hij

theorem srt_ins {l : List Pr} (hs : Srt l) {a : Pr} (h : isP l a.key (posP l a.key) = false) : Srt (l.take (posP l a.key) ++ a :: l.drop (posP l a.key)) := by
  obtain ⟨h1, h2, h3⟩ := posP_pos hs a.key
  generalize hp : posP l a.key = p at h h1 h2 h3
  unfold Srt
  rw [List.pairwise_append]
  refine ⟨hs.sublist (List.take_sublist _ _), ?_, ?_⟩
  · rw [List.pairwise_cons]
    refine ⟨fun b hb => ?_, hs.sublist (List.drop_sublist _ _)⟩
    obtain ⟨i, hi, rfl⟩ := List.getElem_of_mem hb
    rw [List.getElem_drop]
    have hi' : p + i < l.length := by simp at hi; omega
    have hge := h3 (p + i) hi' (by omega)
    have hpl : p < l.length := by omega
    have hne0 : ¬ cmpS l[p].key a.key = 0 := by
      unfold isP at h
      rw [List.getElem?_eq_getElem hpl] at h
      simpa using h
    rw [cmpS_swap]
    by_cases hi0 : i = 0
    · subst hi0
      have := h3 p hpl (Nat.le_refl _)
      simp only [Nat.add_zero]
      omega
    · have hlt := List.pairwise_iff_getElem.1 hs p (p + i) hpl hi' (by omega)
      have hpp := h3 p hpl (Nat.le_refl _)
      have : cmpS a.key l[p].key < 0 := by rw [cmpS_swap]; omega
      have := cmpS_trans this hlt
      rw [cmpS_swap] at this
      omega
  · intro b hb c hc
    obtain ⟨i, hi, rfl⟩ := List.getElem_of_mem hb
    rw [List.getElem_take]
    have hi' : i < p := by simp at hi; omega
    have hlt := h2 i (by omega) hi'
    rcases List.mem_cons.1 hc with rfl | hc
    · exact hlt
    · obtain ⟨j, hj, rfl⟩ := List.getElem_of_mem hc
      rw [List.getElem_drop]
      exact List.pairwise_iff_getElem.1 hs _ _ _ _ (by omega)

theorem srt_del {l : List Pr} (hs : Srt l) (p : Nat) : Srt (l.take p ++ l.drop (p + 1)) := by
  rw [← List.eraseIdx_eq_take_drop_succ]
  exact hs.sublist (List.eraseIdx_sublist _ _)

theorem srt_put {l : List Pr} (hs : Srt l) (a : Pr) : Srt (putP l a (posP l a.key)).2 := by
  unfold putP
  split
  · rename_i h; exact srt_set hs h
  · rename_i h
    split
    · exact hs
    · exact srt_ins hs (by simpa using h)
theorem len_put {l : List Pr} (hl : l.length ≤ 20000) (a : Pr) : (putP l a (posP l a.key)).2.length ≤ 20000 := by
  unfold putP
  split
  · simpa using hl
  · split
    · exact hl
    · simp; have := posP_le l a.key; omega
theorem srt_insert {l : List Pr} (hs : Srt l) (a : Pr) : Srt (insertP l a (posP l a.key)).2 := by
  unfold insertP
  split
  · exact hs
  · rename_i h
    split
    · exact hs
    · exact srt_ins hs (by simpa using h)
theorem len_insert {l : List Pr} (hl : l.length ≤ 20000) (a : Pr) : (insertP l a (posP l a.key)).2.length ≤ 20000 := by
  unfold insertP
  split
  · exact hl
  · split
    · exact hl
    · simp; have := posP_le l a.key; omega
theorem srt_swap {l : List Pr} (hs : Srt l) (key old new : ByteArray) : Srt (swapP l key old new (posP l key)).2 := by
  unfold swapP
  split
  · rename_i h
    split
    · exact srt_set (a := ⟨key, new⟩) hs h
    · exact hs
  · exact hs
theorem len_swap {l : List Pr} (hl : l.length ≤ 20000) (key old new : ByteArray) : (swapP l key old new (posP l key)).2.length ≤ 20000 := by
  unfold swapP
  split
  · split
    · simpa using hl
    · exact hl
  · exact hl

end Go.Proofs.Ythjjkinpbpealaa

/-
  Rows: appending where nothing may be appended; parts that are only read; one cell of a pair.
  Conditions: none. By an AI agent.
-/
set_option maxRecDepth 10000
set_option linter.unusedSimpArgs false
set_option linter.unusedVariables false
namespace Go.Proofs.Ythjjkinpbpealaa
open Go Eng

variable {α : Type} {E : Enc α} {H : AHeap} {v : Value} {l m : List α} {e : TypeId}

/-- The second cell of a pair. -/
theorem wr1_twoS {k k' : Blk} {o : Nat} {x y : ByteArray} {w : Value} (hc : cutB k o 2 = some [.string x, w]) (h : wrL k o [.string x, .string y] = some k') : wr1 k (o + 1) (.string y) = some k' := by
  unfold cutB at hc
  unfold wrL at h
  unfold wr1
  cases k with
  | cells xs e rw =>
    cases rw with
    | false => cases h
    | true =>
      simp only at hc h ⊢
      split at hc
      · rename_i hle
        rw [if_pos (by simpa using hle)] at h
        have hx : xs[o]? = some (.string x) := by
          have := congrArg (fun z => z[0]?) (Option.some.inj hc)
          simp only [List.getElem?_take, List.getElem?_drop] at this
          simpa using this
        rw [if_pos (by omega)]
        have he : xs.set o (.string x) = xs := by
          apply List.ext_getElem?
          intro j
          by_cases hj : j = o
          · subst hj; rw [List.getElem?_set_self (by omega), hx]
          · rw [List.getElem?_set_ne (by omega)]
        simp only [List.all_cons, List.all_nil, one_s, Bool.and_self, if_true, spl, he] at h
        rw [if_pos (one_s)]
        simpa using h
      · cases hc
  | _ => cases h

theorem Eng.Own.writeV {l : List Pr} (r : Own EPr H T.api_Pair v l) {i : Nat} (hi : i < l.length) (x : ByteArray) :
    ∃ b o H', ixS 2 v (.int .i64 (i : Int)) = some (.pointer (some ⟨b, o, none⟩)) ∧ setB H b (wr1 (H.f b) (o + 1) (.string x)) = some H' ∧ Own EPr H' T.api_Pair v (l.set i ⟨l[i].key, x⟩) ∧ blockOf v = some b ∧ b < H.n ∧
      H'.n = H.n ∧ Fr (fun c => c = b) H H' := by
  obtain ⟨b, o, H', h1, h2, h3, h4, h5, h6, h7, _⟩ := Own.write r hi ⟨l[i].key, x⟩
  obtain ⟨b2, o2, g1, g2, g3, _⟩ := r.rd.ix (q := .i64) hi
  have g1 : ixS 2 v (.int .i64 (i : Int)) = some (.pointer (some ⟨b2, o2, none⟩)) := g1
  rw [h1] at g1
  cases g1
  refine ⟨b, o, H', h1, ?_, h3, h4, h5, h6, h7⟩
  unfold setB at h2 ⊢
  obtain ⟨k', hk, rfl⟩ := Option.map_eq_some_iff.1 h2
  rw [wr1_twoS g3 hk]
  rfl

end Go.Proofs.Ythjjkinpbpealaa

/-
  Sorted lists of pairs: ranges; a part in the middle.
  Conditions: none. By an AI agent.
-/
set_option maxRecDepth 10000
set_option linter.unusedSimpArgs false
set_option linter.unusedVariables false
namespace Go.Proofs.Ythjjkinpbpealaa
open Go Eng

/-- Is a key in a range? -/
def inR (sf st : ByteArray) (a : Pr) : Bool := !decide (cmpS a.key sf < 0) && (decide (bl st = []) || decide (cmpS a.key st < 0))
/-- Where a range ends. -/
def endP (l : List Pr) (st : ByteArray) : Nat := if bl st = [] then l.length else posP l st

theorem filter_ge : ∀ {l : List Pr} (_ : Srt l) (k : ByteArray), l.filter (fun a => !decide (cmpS a.key k < 0)) = l.drop (posP l k)
  | [], _, _ => rfl
  | a :: l, hs, k => by
    obtain ⟨ha, hl⟩ := List.pairwise_cons.1 hs
    rw [posP]
    by_cases h : cmpS a.key k < 0
    · rw [if_pos h, List.filter_cons_of_neg (by simp [h]), List.drop_succ_cons]
      exact filter_ge hl k
    · rw [if_neg h, List.drop_zero, List.filter_eq_self]
      intro b hb
      rcases List.mem_cons.1 hb with rfl | hb
      · simp [h]
      · have := ha b hb
        simp only [Bool.not_eq_true', decide_eq_false_iff_not]
        exact fun hc => h (cmpS_trans this hc)
theorem filter_lt : ∀ {l : List Pr} (_ : Srt l) (k : ByteArray), l.filter (fun a => decide (cmpS a.key k < 0)) = l.take (posP l k)
  | [], _, _ => rfl
  | a :: l, hs, k => by
    obtain ⟨ha, hl⟩ := List.pairwise_cons.1 hs
    rw [posP]
    by_cases h : cmpS a.key k < 0
    · rw [if_pos h, List.filter_cons_of_pos (by simp [h]), List.take_succ_cons, filter_lt hl k]
    · rw [if_neg h, List.take_zero, List.filter_eq_nil_iff]
      intro b hb
      rcases List.mem_cons.1 hb with rfl | hb
      · simp [h]
      · have := ha b hb
        simp only [decide_eq_true_eq]
        exact fun hc => h (cmpS_trans this hc)
theorem posP_take : ∀ (l : List Pr) (k : ByteArray) (q : Nat), posP (l.take q) k = min (posP l k) q
  | [], k, q => by simp [posP]
  | a :: l, k, 0 => by simp [posP]
  | a :: l, k, q + 1 => by
    rw [List.take_succ_cons, posP, posP, posP_take l k q]
    split <;> omega

theorem filter_inR {l : List Pr} (hs : Srt l) (sf st : ByteArray) : l.filter (inR sf st) = (l.drop (posP l sf)).take (endP l st - posP l sf) := by
  unfold inR endP
  by_cases h : bl st = []
  · simp only [h, decide_true, Bool.true_or, Bool.and_true, if_true]
    rw [filter_ge hs sf, List.take_of_length_le (by simp)]
  · simp only [h, decide_false, Bool.false_or, if_false]
    rw [← List.filter_filter, filter_lt hs st, filter_ge (hs.sublist (List.take_sublist _ _)) sf, posP_take, ← List.drop_take]
    by_cases hle : posP l sf ≤ posP l st
    · rw [Nat.min_eq_left hle]
    · rw [Nat.min_eq_right (by omega), List.drop_eq_nil_of_le (by simp; omega), List.drop_eq_nil_of_le (by simp; omega)]

theorem rdLit (a : Pr) (H : AHeap) : Rd EPr (H.push (.cells [.string a.key, .string a.value] T.api_Pair true)) (.slice (some ⟨H.n, 0, none⟩) 1 2) [a] := by
  refine .inr (.inr ⟨H.n, 0, 2, rfl, by simp, by simp, ?_⟩)
  rw [push_f_eq rfl]
  rfl


/-- A part in the middle that is the function's own. -/
theorem Eng.Own.midO {α : Type} {E : Enc α} {H : AHeap} {e : TypeId} {v : Value} {l : List α} (r : Own E H e v l) {sz : Nat} (hsz : sz = E.w) {i j : Nat} (hi : i ≤ j) (hj : j ≤ l.length) {q q' : IntKind} :
    ∃ v', slS e sz v (some (.int q (i : Int))) (some (.int q' (j : Int))) none H = some v' ∧ Own E H e v' ((l.drop i).take (j - i)) ∧ blockOf v' = blockOf v := by
  subst hsz
  rcases r with ⟨rfl, rfl⟩ | ⟨rfl, ⟨b, o, s⟩, rfl, hs, hbb⟩ | ⟨b, o, c, xs, rfl, hl, hbn, hf, ho, hx⟩
  · simp only [List.length_nil, Nat.le_zero_eq] at hj
    subst hj
    simp only [Nat.le_zero_eq] at hi
    subst hi
    exact ⟨.slice none 0 0, rfl, .inl ⟨by simp, rfl⟩, rfl⟩
  · simp only at hs
    subst hs
    simp only [List.length_nil, Nat.le_zero_eq] at hj
    subst hj
    simp only [Nat.le_zero_eq] at hi
    subst hi
    exact ⟨.slice (some ⟨b, o, none⟩) 0 0, by simp [slS, lowOf, highOf, bnd], .inr (.inl ⟨by simp, _, rfl, rfl, hbb⟩), rfl⟩
  · have hmul := Nat.mul_le_mul_right E.w hl
    have hmj := Nat.mul_le_mul_right E.w hj
    have hmi := Nat.mul_le_mul_right E.w hi
    have hmc := Nat.mul_le_mul_right E.w (Nat.le_trans hj hl)
    refine ⟨_, sl_lohi hf hi (Nat.le_trans hj hl), .inr (.inr ⟨b, o + i * E.w, c - i, xs, ?_, ?_, hbn, hf, ?_, ?_⟩), rfl⟩
    · rw [show ((l.drop i).take (j - i)).length = j - i by simp; omega]
    · simp; omega
    · rw [Nat.sub_mul]; omega
    · have hlen : ((l.drop i).take (j - i)).length = j - i := by simp; omega
      have hsub : (j - i) * E.w = j * E.w - i * E.w := Nat.sub_mul _ _ _
      rw [hlen, ← E.cells_take, ← E.cells_drop, ← hx, List.drop_take, List.take_take, List.drop_drop, Nat.min_eq_left (by omega)]

end Go.Proofs.Ythjjkinpbpealaa

/-
  The plain map's methods for any key, right or not; and two blocks of which only one is turned.
  Conditions: none. By an AI agent.
-/
set_option maxRecDepth 10000
set_option linter.unusedSimpArgs false
set_option linter.unusedVariables false
namespace Go.Proofs.Ythjjkinpbpealaa
open Go Eng

theorem MdlT.blk {t : TypeId × List Value} {H : AHeap} {b : Nat} {l : List Pr} (r : MdlT t H b l) {c : Nat} (h : MBT t H b c) : c < H.n := by
  obtain ⟨v, h1, h2, h3, h4⟩ := r
  rcases h with h | ⟨u, hu, hb⟩
  · omega
  · rw [h1] at hu; cases hu; exact h3.blk hb


/-- A call that works on one map leaves another one. -/
theorem sep {t1 t2 : TypeId × List Value} {H H' : AHeap} {b1 b2 : Nat} {l2 : List Pr} (r2 : MdlT t2 H b2 l2) (dis : ∀ c, MBT t1 H b1 c → ¬ MBT t2 H b2 c) (u : UpT t1 H b1 H') :
    MdlT t2 H' b2 l2 ∧ (∀ c, MBT t2 H' b2 c → MBT t2 H b2 c) ∧ ∀ c, MBT t1 H' b1 c → ¬ MBT t2 H' b2 c := by
  have hb2 : ¬ MBT t1 H b1 b2 := fun h => dis b2 h (.inl rfl)
  have hlt : b2 < H.n := r2.blk (.inl rfl)
  have hf : H'.f b2 = H.f b2 := u.fr.f hlt hb2
  have hm : ∀ c, MBT t2 H' b2 c → MBT t2 H b2 c := fun c h => h.imp id fun ⟨v, hv, hb⟩ => ⟨v, by rw [← hf]; exact hv, hb⟩
  refine ⟨r2.keep u.fr hb2 fun v hv c hc h => dis c h (.inr ⟨v, hv, hc⟩), hm, fun c h1 h2 => ?_⟩
  have h2 := hm c h2
  rcases u.mb c h1 with h | h
  · exact dis c h h2
  · have := r2.blk h2; omega


theorem MBT_still {t : TypeId × List Value} {H H' : AHeap} {b : Nat} {l : List Pr} (r : MdlT t H b l) (s : Still H H') {c : Nat} (h : MBT t H' b c) : MBT t H b c := by
  obtain ⟨v, h1, h2, _⟩ := r
  exact h.imp id fun ⟨u, hu, hb⟩ => ⟨u, by rw [← s.f h2 (fun h => h)]; exact hu, hb⟩


def putE (l : List Pr) (a : Pr) : Int × List Pr := if chk a.key [a.value] = 0 then putP l a (posP l a.key) else (chk a.key [a.value], l)
def insertE (l : List Pr) (a : Pr) : Int × List Pr := if chk a.key [a.value] = 0 then insertP l a (posP l a.key) else (chk a.key [a.value], l)
def swapE (l : List Pr) (key old new : ByteArray) : Int × List Pr := if chk key [old, new] = 0 then swapP l key old new (posP l key) else (chk key [old, new], l)
def getE (l : List Pr) (key : ByteArray) : Value := if chk key [] = 0 then getP l key (posP l key) else .tuple #[.string (mk []), .int .i64 (chk key [])]
def delE (l : List Pr) (key : ByteArray) : List Pr := if chk key [] = 0 then (if isP l key (posP l key) = true then l.take (posP l key) ++ l.drop (posP l key + 1) else l) else l

theorem getE_shape (l : List Pr) (key : ByteArray) : ∃ s e, getE l key = .tuple #[.string s, .int .i64 e] := by
  unfold getE getP
  split
  · split <;> exact ⟨_, _, rfl⟩
  · exact ⟨_, _, rfl⟩


theorem q_putM {t : TypeId × List Value} (b : Nat) (l : List Pr) (a : Pr) (H : AHeap) (ok : Ok H) (r : MdlT t H b l) (hs : Srt l) (hl : l.length ≤ 20000) :
    ∃ H', CC F.model_Model_Put [.pointer (some ⟨b, 0, none⟩), .string a.key, .string a.value] H = some (.int .i64 (putE l a).1, H') ∧ MdlT t H' b (putE l a).2 ∧ UpT t H b H' := by
  unfold putE
  split
  · rename_i h; exact q_Put b l a H ok r hl _ (posP_pos hs a.key) h
  · rename_i h; exact ⟨H, q_Put_bad b l a H r h, r, UpT.refl H b⟩
theorem q_getM {t : TypeId × List Value} (b : Nat) (l : List Pr) (key : ByteArray) (H : AHeap) (r : MdlT t H b l) (hs : Srt l) (hl : l.length ≤ 20000) : CC F.model_Model_Get [.pointer (some ⟨b, 0, none⟩), .string key] H = some (getE l key, H) := by
  unfold getE
  split
  · rename_i h; exact q_Get b l key H r (by omega) _ (posP_pos hs key) h
  · rename_i h; exact q_Get_bad b key H h
theorem q_delM {t : TypeId × List Value} (b : Nat) (l : List Pr) (key : ByteArray) (H : AHeap) (ok : Ok H) (r : MdlT t H b l) (hs : Srt l) (hl : l.length ≤ 20000) :
    ∃ H', CC F.model_Model_Delete [.pointer (some ⟨b, 0, none⟩), .string key] H = some (getE l key, H') ∧ MdlT t H' b (delE l key) ∧ UpT t H b H' := by
  unfold getE delE
  by_cases h : chk key [] = 0
  · rw [if_pos h, if_pos h]; exact q_Delete b l key H ok r hl _ (posP_pos hs key) h
  · rw [if_neg h, if_neg h]; exact ⟨H, q_Delete_bad b key H h, r, UpT.refl H b⟩
theorem srt_putE {l : List Pr} (hs : Srt l) (a : Pr) : Srt (putE l a).2 := by
  unfold putE
  split
  · exact srt_put hs a
  · exact hs
theorem len_putE {l : List Pr} (hl : l.length ≤ 20000) (a : Pr) : (putE l a).2.length ≤ 20000 := by
  unfold putE
  split
  · exact len_put hl a
  · exact hl
theorem srt_insertE {l : List Pr} (hs : Srt l) (a : Pr) : Srt (insertE l a).2 := by
  unfold insertE
  split
  · exact srt_insert hs a
  · exact hs
theorem len_insertE {l : List Pr} (hl : l.length ≤ 20000) (a : Pr) : (insertE l a).2.length ≤ 20000 := by
  unfold insertE
  split
  · exact len_insert hl a
  · exact hl
theorem srt_swapE {l : List Pr} (hs : Srt l) (k o n : ByteArray) : Srt (swapE l k o n).2 := by
  unfold swapE
  split
  · exact srt_swap hs k o n
  · exact hs
theorem len_swapE {l : List Pr} (hl : l.length ≤ 20000) (k o n : ByteArray) : (swapE l k o n).2.length ≤ 20000 := by
  unfold swapE
  split
  · exact len_swap hl k o n
  · exact hl
theorem srt_delE {l : List Pr} (hs : Srt l) (k : ByteArray) : Srt (delE l k) := by
  unfold delE
  split
  · split
    · exact srt_del hs _
    · exact hs
  · exact hs
theorem len_delE {l : List Pr} (hl : l.length ≤ 20000) (k : ByteArray) : (delE l k).length ≤ 20000 := by
  unfold delE
  split
  · split
    · simp; omega
    · exact hl
  · exact hl

end Go.Proofs.Ythjjkinpbpealaa

/-
  Chapter 45: a store: its state; check, ended, set.
  Conditions: none. By an AI agent.
-/
set_option maxRecDepth 10000
set_option linter.unusedSimpArgs false
set_option linter.unusedVariables false
namespace Go.Proofs.Ythjjkinpbpealaa
open Go Eng
attribute [local congr] bareK_congr' bothK_congr' quietK_congr'

abbrev Ec := List (ByteArray × Nat)
def entsOf (E : Ec) : List (Value × Value) := E.map fun p => (.string p.1, .int .i64 (p.2 : Int))
def RC (v : Value) (a : Nat) : Prop := v = .int .i64 (a : Int)
theorem ent_of : ∀ E : Ec, Ent RC kStr.kv (entsOf E) E
  | [] => trivial
  | _ :: E => ⟨rfl, rfl, ent_of E⟩
theorem of_ent : ∀ {ents : List (Value × Value)} {E : Ec}, Ent RC kStr.kv ents E → ents = entsOf E
  | [], [], _ => rfl
  | (k, v) :: ents, p :: E, h => by
    obtain ⟨h1, h2, h3⟩ := h
    simp only at h1 h2
    subst h1
    have h2 : v = .int .i64 (p.2 : Int) := h2
    subst h2
    rw [of_ent h3]
    rfl
  | [], _ :: _, h => h.elim
  | _ :: _, [], h => h.elim
theorem mt : MapT Try.prog kStr T.map_string_int (.int .i64 0) := ⟨_, _, Try.underlying27, by kernel_rfl, by kernel_rfl⟩
theorem map_nil {ox oy : Operand} : xbin Try.prog .eql T.map_string_int ox oy (.map none) (.map none) = some (.bool true) := by kernel_rfl
theorem map_some {ox oy : Operand} {b : Nat} : xbin Try.prog .eql T.map_string_int ox oy (.map (some b)) (.map none) = some (.bool false) := by kernel_rfl

/-- The map of ends, or none. -/
def MapIs (H : AHeap) (c : Nat) (m : Option Nat) (E : Ec) : Prop := match m with
  | none => E = []
  | some mb => H.f mb = .map (entsOf E) ∧ mb < H.n ∧ mb ≠ c
theorem MapIs.keep {S : Nat → Prop} {H H' : AHeap} {c : Nat} {m : Option Nat} {E : Ec} (h : MapIs H c m E) (fr : Fr S H H') (hs : ∀ mb, m = some mb → ¬ S mb) : MapIs H' c m E := by
  cases m with
  | none => exact h
  | some mb =>
    obtain ⟨h1, h2, h3⟩ := h
    have := fr.n
    exact ⟨by rw [fr.f h2 (hs mb rfl)]; exact h1, by omega, h3⟩
theorem MapIs.lt {H : AHeap} {c : Nat} {m : Option Nat} {E : Ec} (h : MapIs H c m E) : ∀ mb, m = some mb → mb < H.n := fun mb e => by
  subst e
  exact h.2.1
theorem MapIs.ne {H : AHeap} {c : Nat} {m : Option Nat} {E : Ec} (h : MapIs H c m E) : ∀ mb, m = some mb → mb ≠ c := fun mb e => by
  subst e
  exact h.2.2
theorem look_get {H : AHeap} {c : Nat} {m : Option Nat} {E : Ec} (h : MapIs H c m E) (s : ByteArray) : xlookup Try.prog T.map_string_int (.map m) (.string s) false H = some (.int .i64 (((lkp E s).getD 0 : Nat) : Int)) := by
  cases m with
  | none =>
    obtain rfl : E = [] := h
    exact look_nil mt (k := s) false
  | some mb =>
    obtain ⟨h1, _, _⟩ := h
    cases hk : lkp E s with
    | none => exact look_none mt h1 (ent_of E) hk false
    | some a =>
      obtain ⟨v, hl, hv⟩ := look_some mt h1 (ent_of E) hk false
      have hv : v = .int .i64 (a : Int) := hv
      subst hv
      exact hl

/-- A key with its value and its end. -/
structure En where
  key : ByteArray
  val : ByteArray
  e : Nat
def toP (x : En) : Pr := ⟨x.key, x.val⟩
def pl (S : List En) : List Pr := S.map toP
def stT (m : Option Nat) (now : Nat) : TypeId × List Value := (T.expire_Store, [.map m, .int .i64 (now : Int)])
def endOf : List En → ByteArray → Nat
  | [], _ => 0
  | x :: S, k => if x.key = k then x.e else endOf S k
def endB (S : List En) (now : Nat) (k : ByteArray) : Bool := decide (0 < endOf S k) && decide (endOf S k ≤ now)

structure StR (H : AHeap) (c : Nat) (m : Option Nat) (E : Ec) (S : List En) (now : Nat) : Prop where
  md : MdlT (stT m now) H c (pl S)
  mi : MapIs H c m E
  sp : ∀ mb, m = some mb → ¬ MBT (stT m now) H c mb
  nd : (E.map (·.1)).Nodup
  lk : ∀ k, lkp E k = if endOf S k = 0 then none else some (endOf S k)
  srt : Srt (pl S)
  len : S.length ≤ 20000
  ends : ∀ x ∈ S, x.e ≤ 1099511627776
  nw : now ≤ 1099511627776
  keys : ∀ x ∈ S, chk x.key [] = 0

/-- The blocks of a store. -/
def OB (H : AHeap) (c : Nat) (b : Nat) : Prop := b = c ∨ ∃ v m n, H.f c = .cells [v, .map m, .int .i64 n] T.expire_Store true ∧ (blockOf v = some b ∨ m = some b)
structure UpX (H : AHeap) (c : Nat) (H' : AHeap) : Prop where
  fr : Fr (OB H c) H H'
  ob : ∀ b, OB H' c b → OB H c b ∨ H.n ≤ b
theorem UpX.refl (H : AHeap) (c : Nat) : UpX H c H := ⟨Fr.refl H, fun _ h => .inl h⟩

theorem StR.blk {H : AHeap} {c : Nat} {m : Option Nat} {E : Ec} {S : List En} {now : Nat} (r : StR H c m E S now) (b : Nat) : OB H c b ↔ MBT (stT m now) H c b ∨ m = some b := by
  obtain ⟨v, h1, _⟩ := r.md
  constructor
  · rintro (h | ⟨v', m', n', h2, h3⟩)
    · exact .inl (.inl h)
    · rw [h1] at h2
      cases h2
      exact h3.imp (fun h => .inr ⟨v, h1, h⟩) id
  · rintro ((h | ⟨v', h2, h3⟩) | h)
    · exact .inl h
    · rw [h1] at h2
      cases h2
      exact .inr ⟨v, m, (now : Int), h1, .inl h3⟩
    · exact .inr ⟨v, m, (now : Int), h1, .inr h⟩
theorem StR.lt {H : AHeap} {c : Nat} {m : Option Nat} {E : Ec} {S : List En} {now : Nat} (r : StR H c m E S now) {b : Nat} (h : OB H c b) : b < H.n := by
  rcases (r.blk b).1 h with h | h
  · exact r.md.blk h
  · exact r.mi.lt b h
theorem StR.keep {H H' : AHeap} {c : Nat} {m : Option Nat} {E : Ec} {S : List En} {now : Nat} {X : Nat → Prop} (r : StR H c m E S now) (fr : Fr X H H') (hx : ∀ b, b < H.n → X b → ¬ OB H c b) : StR H' c m E S now := by
  have hc : c < H.n := r.lt (.inl rfl)
  have hxc : ¬ X c := fun h => hx c hc h (.inl rfl)
  have hf : H'.f c = H.f c := fr.f hc hxc
  exact ⟨r.md.keep fr hxc fun v hv b hb h => hx b (r.md.blk (.inr ⟨v, hv, hb⟩)) h ((r.blk b).2 (.inl (.inr ⟨v, hv, hb⟩))),
    r.mi.keep fr fun mb e h => hx mb (r.mi.lt mb e) h ((r.blk mb).2 (.inr e)),
    fun mb e h => r.sp mb e (h.imp id fun ⟨v, hv, hb⟩ => ⟨v, by rw [← hf]; exact hv, hb⟩), r.nd, r.lk, r.srt, r.len, r.ends, r.nw, r.keys⟩
theorem StR.still {H H' : AHeap} {c : Nat} {m : Option Nat} {E : Ec} {S : List En} {now : Nat} (r : StR H c m E S now) (fr : Still H H') : StR H' c m E S now := r.keep fr fun _ _ h => h.elim
theorem ob_still {H H' : AHeap} {c : Nat} (hc : c < H.n) {X : Nat → Prop} (fr : Fr X H H') (hx : ¬ X c) {b : Nat} : OB H' c b ↔ OB H c b := by
  unfold OB
  rw [fr.f hc hx]

/-! ### check -/
theorem q_xcheck (k v : ByteArray) (H : AHeap) (ok : Ok H) : CC F.expire_check [.string k, .string v] H = some (.int .i64 (chk k [v]), H) := by
  obtain ⟨H1, hH1⟩ : ∃ H1, H.push (.cells [.slice none 0 0] T.model_Model true) = H1 := ⟨_, rfl⟩
  have s1 : Still H H1 := by rw [← hH1]; exact (Fr.refl H).push _
  have f1 : H1.f H.n = .cells [.slice none 0 0] T.model_Model true := by rw [← hH1]; exact push_f_eq rfl
  have n1 : H1.n = H.n + 1 := by rw [← hH1]; rfl
  have r : MdlT (T.model_Model, []) H1 H.n [] := ⟨.slice none 0 0, f1, by omega, .inl ⟨rfl, rfl⟩, fun h => by cases h⟩
  obtain ⟨H2, e, _, up⟩ := q_putM H.n [] ⟨k, v⟩ H1 (s1.ok ok) r List.Pairwise.nil (by simp)
  have he : (putE [] (⟨k, v⟩ : Pr)).1 = chk k [v] := by
    unfold putE
    split
    · rename_i h; rw [h]; rfl
    · rfl
  rw [he] at e
  have s2 : Still H H2 := s1.then up.fr fun b hb h => by
    rcases h with h | ⟨u, hu, hbl⟩
    · omega
    · have hu : H1.f H.n = .cells [u] T.model_Model true := hu
      rw [f1] at hu
      cases hu
      cases hbl
  refine pure_of (H' := H2) ?_ (d_expire_check _ _ H) rfl s2
  simp (disch := first | with_reducible rfl | assumption | omega | rfl | (simp only [go_sem]; first | done | omega)) only [go_sem, ↓reduceIte, reduceCtorEq, Nat.reduceEqDiff, Nat.reduceAdd, Nat.reduceSub, Nat.reduceMul, Nat.reduceDiv, Nat.reduceMod, Nat.reduceLeDiff, Nat.reduceLT, Nat.reduceBEq, Int.reduceEq, Int.reduceBEq, Int.reduceBNe, Int.reduceLT, Int.reduceLE, Int.reduceAdd, Int.reduceSub, Int.reduceNeg, Int.reduceToNat, Int.reducePow, Nat.reducePow, Int.reduceMul, Int.reduceDiv, ↓s_expire_check, hH1, ↓enterK_eq e, enterK_eq e]

section
variable {H : AHeap} {c : Nat} {m : Option Nat} {E : Ec} {S : List En} {now : Nat}
theorem StR.end_lk (r : StR H c m E S now) (k : ByteArray) : (lkp E k).getD 0 = endOf S k := by
  rw [r.lk]
  split
  · rename_i h; rw [h]; rfl
  · rfl
theorem StR.look (r : StR H c m E S now) (k : ByteArray) : xlookup Try.prog T.map_string_int (.map m) (.string k) false H = some (.int .i64 (endOf S k : Int)) := by
  have := look_get r.mi k
  rwa [r.end_lk] at this
theorem q_ended (r : StR H c m E S now) (k : ByteArray) : CC F.expire_Store_ended [.pointer (some ⟨c, 0, none⟩), .string k] H = some (.bool (endB S now k), H) := by
  have hl := r.look k
  obtain ⟨v, h1, _⟩ := r.md
  have h1 : H.f c = .cells [v, .map m, .int .i64 (now : Int)] T.expire_Store true := h1
  unfold endB
  generalize endOf S k = e at hl ⊢
  by_cases c1 : 0 < e
  · have c1' : (0 : Int) < (e : Int) := by omega
    by_cases c2 : e ≤ now
    · have c2' : (e : Int) ≤ (now : Int) := by omega
      rw [decide_eq_true c1, decide_eq_true c2]
      apply pure_of _ (d_expire_Store_ended _ _ H) rfl
      rotate_left 2
      · simp (disch := first | with_reducible rfl | assumption | omega | rfl | (simp only [go_sem]; first | done | omega)) only [go_sem, ↓reduceIte, reduceCtorEq, Nat.reduceEqDiff, Nat.reduceAdd, Nat.reduceSub, Nat.reduceMul, Nat.reduceDiv, Nat.reduceMod, Nat.reduceLeDiff, Nat.reduceLT, Nat.reduceBEq, Int.reduceEq, Int.reduceBEq, Int.reduceBNe, Int.reduceLT, Int.reduceLE, Int.reduceAdd, Int.reduceSub, Int.reduceNeg, Int.reduceToNat, Int.reducePow, Nat.reducePow, Int.reduceMul, Int.reduceDiv, ↓s_expire_Store_ended, h1, hl, c1', c2']
        rfl
      · (repeat (first | exact Fr.refl _ | refine Fr.push ?_ _ | refine Fr.set ?_ _ _ (by intro h; first | omega | (simp only [go_sem] at h; omega))))
    · have c2' : ¬ (e : Int) ≤ (now : Int) := by omega
      rw [decide_eq_true c1, decide_eq_false c2]
      apply pure_of _ (d_expire_Store_ended _ _ H) rfl
      rotate_left 2
      · simp (disch := first | with_reducible rfl | assumption | omega | rfl | (simp only [go_sem]; first | done | omega)) only [go_sem, ↓reduceIte, reduceCtorEq, Nat.reduceEqDiff, Nat.reduceAdd, Nat.reduceSub, Nat.reduceMul, Nat.reduceDiv, Nat.reduceMod, Nat.reduceLeDiff, Nat.reduceLT, Nat.reduceBEq, Int.reduceEq, Int.reduceBEq, Int.reduceBNe, Int.reduceLT, Int.reduceLE, Int.reduceAdd, Int.reduceSub, Int.reduceNeg, Int.reduceToNat, Int.reducePow, Nat.reducePow, Int.reduceMul, Int.reduceDiv, ↓s_expire_Store_ended, h1, hl, c1', c2']
        rfl
      · (repeat (first | exact Fr.refl _ | refine Fr.push ?_ _ | refine Fr.set ?_ _ _ (by intro h; first | omega | (simp only [go_sem] at h; omega))))
  · have c1' : ¬ (0 : Int) < (e : Int) := by omega
    rw [decide_eq_false c1]
    apply pure_of _ (d_expire_Store_ended _ _ H) rfl
    rotate_left 2
    · simp (disch := first | with_reducible rfl | assumption | omega | rfl | (simp only [go_sem]; first | done | omega)) only [go_sem, ↓reduceIte, reduceCtorEq, Nat.reduceEqDiff, Nat.reduceAdd, Nat.reduceSub, Nat.reduceMul, Nat.reduceDiv, Nat.reduceMod, Nat.reduceLeDiff, Nat.reduceLT, Nat.reduceBEq, Int.reduceEq, Int.reduceBEq, Int.reduceBNe, Int.reduceLT, Int.reduceLE, Int.reduceAdd, Int.reduceSub, Int.reduceNeg, Int.reduceToNat, Int.reducePow, Nat.reducePow, Int.reduceMul, Int.reduceDiv, ↓s_expire_Store_ended, h1, hl, c1']
      rfl
    · (repeat (first | exact Fr.refl _ | refine Fr.push ?_ _ | refine Fr.set ?_ _ _ (by intro h; first | omega | (simp only [go_sem] at h; omega))))
end

/-! ### set -/
def setE (E : Ec) (k : ByteArray) (n : Nat) : Ec := if 0 < n then Eng.putE (Eng.delE E k) k n else Eng.delE E k
theorem lkp_set (E : Ec) (k j : ByteArray) (n : Nat) : lkp (setE E k n) j = if k = j then (if n = 0 then none else some n) else lkp E j := by
  unfold setE
  by_cases h : 0 < n
  · rw [if_pos h, lkp_put, lkp_del]
    by_cases e : k = j
    · rw [if_pos e, if_pos e, if_neg (by omega)]
    · rw [if_neg e, if_neg e, if_neg e]
  · rw [if_neg h, lkp_del]
    by_cases e : k = j
    · rw [if_pos e, if_pos e, if_pos (by omega)]
    · rw [if_neg e, if_neg e]
theorem nd_set {E : Ec} (h : (E.map (·.1)).Nodup) (k : ByteArray) (n : Nat) : ((setE E k n).map (·.1)).Nodup := by
  unfold setE
  split
  · exact keys_put_nodup (keys_del_nodup h k) k n
  · exact keys_del_nodup h k

/-- set on the map: the store's further cells are as they were. -/
theorem q_xset {H : AHeap} {c : Nat} {m : Option Nat} {E : Ec} {v : Value} {now : Int} (k : ByteArray) (n : Nat) (ok : Ok H) (hc : c < H.n) (hf : H.f c = .cells [v, .map m, .int .i64 now] T.expire_Store true) (hv : Eng.one v = true) (h : MapIs H c m E) :
    ∃ m' H', CC F.expire_Store_set [.pointer (some ⟨c, 0, none⟩), .string k, .int .i64 (n : Int)] H = some (.tuple #[], H') ∧ H'.f c = .cells [v, .map m', .int .i64 now] T.expire_Store true ∧ MapIs H' c m' (setE E k n) ∧
      Fr (fun b => b = c ∨ m = some b) H H' ∧ (∀ mb, m' = some mb → m = some mb ∨ (H.n ≤ mb ∧ mb < H'.n)) := by
  -- a map of its own, if there was none
  obtain ⟨mb, H1, fr1, f1, m1, ok1, hmb, hne, hm0⟩ : ∃ mb H1, Fr (fun b => b = c ∨ m = some b) H H1 ∧ H1.f c = .cells [v, .map (some mb), .int .i64 now] T.expire_Store true ∧ H1.f mb = .map (entsOf E) ∧ Ok H1 ∧ mb < H1.n ∧ mb ≠ c ∧
      ((m = some mb ∧ H1 = H) ∨ (m = none ∧ mb = H.n ∧ H1 = (H.push (.map [])).set c (.cells [v, .map (some H.n), .int .i64 now] T.expire_Store true))) := by
    cases m with
    | some mb =>
      obtain ⟨g1, g2, g3⟩ := h
      exact ⟨mb, H, Fr.refl H, hf, g1, ok, g2, g3, .inl ⟨rfl, rfl⟩⟩
    | none =>
      obtain rfl : E = [] := h
      have fr : Fr (fun b => b = c ∨ (none : Option Nat) = some b) H ((H.push (.map [])).set c (.cells [v, .map (some H.n), .int .i64 now] T.expire_Store true)) := ((Fr.refl H).push _).set _ _ fun _ => .inl rfl
      refine ⟨H.n, _, fr, set_f_eq, ?_, fr.ok ok, Nat.lt_succ_self _, by omega, .inr ⟨rfl, rfl, rfl⟩⟩
      rw [set_f_ne (by omega)]
      exact push_f_eq rfl
  have n1 := fr1.n
  have l1 := del_map mt m1 (ent_of E) k [T.string]
  have p1 : mdel (entsOf E) (kStr.kv k) = entsOf (Eng.delE E k) := of_ent ((ent_of E).del (R := RC) (k := k))
  rw [p1] at l1
  obtain ⟨H2, hH2⟩ : ∃ H2, H1.set mb (.map (entsOf (Eng.delE E k))) = H2 := ⟨_, rfl⟩
  rw [hH2] at l1
  have l1 : xbuiltin Try.prog .delete [T.map_string_int, T.string] [.map (some mb), .string k] H1 = some (.val (.tuple #[]) H2) := by
    show both (xdelete Try.prog [T.map_string_int, T.string] (.map (some mb)) (.string k) H1) = _
    have l1 : xdelete Try.prog [T.map_string_int, T.string] (.map (some mb)) (.string k) H1 = some (.tuple #[], H2) := l1
    rw [l1]
    rfl
  have S1 : ∀ b, b < H.n → b = mb → (b = c ∨ m = some b) := fun b hb e => by
    rcases hm0 with ⟨h, _⟩ | ⟨_, h, _⟩
    · exact .inr (by rw [h, e])
    · omega
  have fr2 : Fr (fun b => b = c ∨ m = some b) H H2 := by rw [← hH2]; exact fr1.set _ _ fun hb => S1 mb hb rfl
  have f2 : H2.f c = .cells [v, .map (some mb), .int .i64 now] T.expire_Store true := by rw [← hH2, set_f_ne (fun h => hne h.symm)]; exact f1
  have m2 : H2.f mb = .map (entsOf (Eng.delE E k)) := by rw [← hH2]; exact set_f_eq
  have n2 : H2.n = H1.n := by rw [← hH2]; rfl
  have hst : ∀ b, (some mb : Option Nat) = some b → m = some b ∨ (H.n ≤ b ∧ b < H1.n) := fun b e => by
    cases e
    rcases hm0 with ⟨h, _⟩ | ⟨_, h, _⟩
    · exact .inl h
    · exact .inr ⟨by omega, hmb⟩
  by_cases hn : 0 < n
  · have hn' : (0 : Int) < (n : Int) := by omega
    have l5 := upd_map mt m2 (ent_of (Eng.delE E k)) k (.int .i64 (n : Int))
    have p5 : mput (entsOf (Eng.delE E k)) (kStr.kv k) (.int .i64 (n : Int)) = entsOf (Eng.putE (Eng.delE E k) k n) := of_ent ((ent_of (Eng.delE E k)).put (R := RC) (k := k) (a := n) rfl)
    rw [p5] at l5
    obtain ⟨H3, hH3⟩ : ∃ H3, H2.set mb (.map (entsOf (Eng.putE (Eng.delE E k) k n))) = H3 := ⟨_, rfl⟩
    rw [hH3] at l5
    have l5 : xmapUpdate Try.prog T.map_string_int (.map (some mb)) (.string k) (.int .i64 (n : Int)) H2 = some H3 := l5
    have fr3 : Fr (fun b => b = c ∨ m = some b) H H3 := by rw [← hH3]; exact fr2.set _ _ fun hb => S1 mb hb rfl
    have hE : setE E k n = Eng.putE (Eng.delE E k) k n := by unfold setE; rw [if_pos hn]
    refine ⟨some mb, H3, (d_expire_Store_set _ _ _ H (r := (.tuple #[], H3)) ?_).trans (congrArg some ?_), by rw [← hH3, set_f_ne (fun h => hne h.symm)]; exact f2, ⟨by rw [← hH3, hE]; exact set_f_eq, by rw [← hH3]; show mb < H2.n; omega, hne⟩, fr3, fun b e => (hst b e).imp id fun h => ⟨h.1, by rw [← hH3]; show b < H2.n; omega⟩⟩
    · rcases hm0 with ⟨rfl, rfl⟩ | ⟨rfl, rfl, rfl⟩
      · simp (disch := first | with_reducible rfl | assumption | omega | rfl | (simp only [go_sem]; first | done | omega)) only [go_sem, ↓reduceIte, reduceCtorEq, Nat.reduceEqDiff, Nat.reduceAdd, Nat.reduceSub, Nat.reduceMul, Nat.reduceDiv, Nat.reduceMod, Nat.reduceLeDiff, Nat.reduceLT, Nat.reduceBEq, Int.reduceEq, Int.reduceBEq, Int.reduceBNe, Int.reduceLT, Int.reduceLE, Int.reduceAdd, Int.reduceSub, Int.reduceNeg, Int.reduceToNat, Int.reducePow, Nat.reducePow, Int.reduceMul, Int.reduceDiv, ↓s_expire_Store_set, hf, map_some, l1, f2, hn', l5]
      · simp (disch := first | with_reducible rfl | assumption | omega | rfl | (simp only [go_sem]; first | done | omega)) only [go_sem, ↓reduceIte, reduceCtorEq, Nat.reduceEqDiff, Nat.reduceAdd, Nat.reduceSub, Nat.reduceMul, Nat.reduceDiv, Nat.reduceMod, Nat.reduceLeDiff, Nat.reduceLT, Nat.reduceBEq, Int.reduceEq, Int.reduceBEq, Int.reduceBNe, Int.reduceLT, Int.reduceLE, Int.reduceAdd, Int.reduceSub, Int.reduceNeg, Int.reduceToNat, Int.reducePow, Nat.reducePow, Int.reduceMul, Int.reduceDiv, ↓s_expire_Store_set, hf, map_nil, make_map mt, l1, f1, f2, hn', l5, hv]
    · have hv3 : H.clk ≤ H3.ver mb := by rw [← hH3, set_v_eq]; exact fr2.clk
      rcases hm0 with ⟨e, _⟩ | ⟨_, e, e2⟩
      · exact tidy_turned (by have := h.lt mb e; omega) (ok mb) hv3
      · have hvc : H3.ver c = H1.ver c := by rw [← hH3, set_v_ne (fun h => hne h.symm), ← hH2, set_v_ne (fun h => hne h.symm)]
        refine tidy_turned hc (ok c) ?_
        rw [hvc, e2, set_v_eq]
        exact Nat.le_refl _
  · have hn' : ¬ (0 : Int) < (n : Int) := by omega
    have hE : setE E k n = Eng.delE E k := by unfold setE; rw [if_neg hn]
    refine ⟨some mb, H2, (d_expire_Store_set _ _ _ H (r := (.tuple #[], H2)) ?_).trans (congrArg some ?_), f2, ⟨by rw [hE]; exact m2, by omega, hne⟩, fr2, fun b e => (hst b e).imp id fun h => ⟨h.1, by omega⟩⟩
    · rcases hm0 with ⟨rfl, rfl⟩ | ⟨rfl, rfl, rfl⟩
      · simp (disch := first | with_reducible rfl | assumption | omega | rfl | (simp only [go_sem]; first | done | omega)) only [go_sem, ↓reduceIte, reduceCtorEq, Nat.reduceEqDiff, Nat.reduceAdd, Nat.reduceSub, Nat.reduceMul, Nat.reduceDiv, Nat.reduceMod, Nat.reduceLeDiff, Nat.reduceLT, Nat.reduceBEq, Int.reduceEq, Int.reduceBEq, Int.reduceBNe, Int.reduceLT, Int.reduceLE, Int.reduceAdd, Int.reduceSub, Int.reduceNeg, Int.reduceToNat, Int.reducePow, Nat.reducePow, Int.reduceMul, Int.reduceDiv, ↓s_expire_Store_set, hf, map_some, l1, f2, hn']
      · simp (disch := first | with_reducible rfl | assumption | omega | rfl | (simp only [go_sem]; first | done | omega)) only [go_sem, ↓reduceIte, reduceCtorEq, Nat.reduceEqDiff, Nat.reduceAdd, Nat.reduceSub, Nat.reduceMul, Nat.reduceDiv, Nat.reduceMod, Nat.reduceLeDiff, Nat.reduceLT, Nat.reduceBEq, Int.reduceEq, Int.reduceBEq, Int.reduceBNe, Int.reduceLT, Int.reduceLE, Int.reduceAdd, Int.reduceSub, Int.reduceNeg, Int.reduceToNat, Int.reducePow, Nat.reducePow, Int.reduceMul, Int.reduceDiv, ↓s_expire_Store_set, hf, map_nil, make_map mt, l1, f1, f2, hn', hv]
    · have hv3 : H.clk ≤ H2.ver mb := by rw [← hH2, set_v_eq]; exact fr1.clk
      rcases hm0 with ⟨e, _⟩ | ⟨_, e, e2⟩
      · exact tidy_turned (by have := h.lt mb e; omega) (ok mb) hv3
      · have hvc : H2.ver c = H1.ver c := by rw [← hH2, set_v_ne (fun h => hne h.symm)]
        refine tidy_turned hc (ok c) ?_
        rw [hvc, e2, set_v_eq]
        exact Nat.le_refl _

end Go.Proofs.Ythjjkinpbpealaa

/-
  Chapter 45: sorted lists of keys with values and ends.
  Conditions: none. By an AI agent.
-/
set_option maxRecDepth 10000
set_option linter.unusedSimpArgs false
set_option linter.unusedVariables false
namespace Go.Proofs.Ythjjkinpbpealaa
open Go Eng

def getS : List En → ByteArray → Option En
  | [], _ => none
  | x :: S, k => if x.key = k then some x else getS S k
def insR : List En → En → List En
  | [], x => [x]
  | y :: S, x => if cmpS y.key x.key < 0 then y :: insR S x else if y.key = x.key then x :: S else x :: y :: S
def delR : List En → ByteArray → List En
  | [], _ => []
  | y :: S, k => if y.key = k then S else y :: delR S k

theorem endOf_get : ∀ (S : List En) (k : ByteArray), endOf S k = (getS S k).elim 0 En.e
  | [], _ => rfl
  | x :: S, k => by
    rw [endOf, getS]
    split
    · rfl
    · exact endOf_get S k
theorem getS_key : ∀ {S : List En} {k : ByteArray} {x : En}, getS S k = some x → x.key = k ∧ x ∈ S
  | y :: S, k, x, h => by
    rw [getS] at h
    split at h
    · rename_i e; cases h; exact ⟨e, by simp⟩
    · obtain ⟨h1, h2⟩ := getS_key h; exact ⟨h1, by simp [h2]⟩
theorem getS_none {S : List En} {k : ByteArray} (h : ∀ x ∈ S, x.key ≠ k) : getS S k = none := by
  induction S with
  | nil => rfl
  | cons x S ih =>
    rw [getS, if_neg (h x (by simp))]
    exact ih fun y hy => h y (by simp [hy])
theorem getS_mem : ∀ {S : List En}, Srt (pl S) → ∀ {x : En}, x ∈ S → getS S x.key = some x
  | y :: S, hs, x, hx => by
    have hp := List.pairwise_cons.1 hs
    rw [getS]
    rcases List.mem_cons.1 hx with rfl | hx
    · rw [if_pos rfl]
    · have := hp.1 (toP x) (List.mem_map_of_mem hx)
      have hne : y.key ≠ x.key := fun e => by
        have h : cmpS y.key x.key < 0 := this
        rw [e, cmpS_self] at h
        exact absurd h (by decide)
      rw [if_neg hne]
      exact getS_mem hp.2 hx
theorem low_none {y : En} {S : List En} {k : ByteArray} (hs : Srt (pl (y :: S))) (h : ¬ cmpS y.key k < 0) (hne : y.key ≠ k) : getS S k = none := by
  have hp := List.pairwise_cons.1 hs
  refine getS_none fun x hx e => ?_
  have h1 : cmpS y.key x.key < 0 := hp.1 (toP x) (List.mem_map_of_mem hx)
  rw [e] at h1
  exact h h1
theorem isP_shift (a : Pr) (l : List Pr) (k : ByteArray) (p : Nat) : isP (a :: l) k (p + 1) = isP l k p := by
  unfold isP
  rw [List.getElem?_cons_succ]
theorem get_pos : ∀ {S : List En}, Srt (pl S) → ∀ (k : ByteArray), isP (pl S) k (posP (pl S) k) = (getS S k).isSome ∧ ∀ x, getS S k = some x → (pl S)[posP (pl S) k]? = some (toP x)
  | [], _, k => ⟨rfl, fun x h => by cases h⟩
  | y :: S, hs, k => by
    have hp := List.pairwise_cons.1 hs
    have e : pl (y :: S) = toP y :: pl S := rfl
    rw [e, posP, getS]
    by_cases h : cmpS (toP y).key k < 0
    · have hne : y.key ≠ k := fun e => by
        have h : cmpS y.key k < 0 := h
        rw [e, cmpS_self] at h
        exact absurd h (by decide)
      rw [if_pos h, if_neg hne, isP_shift, List.getElem?_cons_succ]
      exact get_pos hp.2 k
    · rw [if_neg h]
      by_cases hk : y.key = k
      · rw [if_pos hk]
        refine ⟨?_, fun x hx => by cases hx; rfl⟩
        unfold isP
        rw [List.getElem?_cons_zero]
        have : cmpS (toP y).key k = 0 := cmpS_eq.2 hk
        simp [this]
      · rw [if_neg hk, low_none hs h hk]
        refine ⟨?_, fun x hx => by cases hx⟩
        unfold isP
        rw [List.getElem?_cons_zero]
        have : ¬ cmpS (toP y).key k = 0 := fun e => hk (cmpS_eq.1 e)
        simp [this]

/-! ### insertion -/
theorem ins_mem : ∀ {S : List En} {x z : En}, z ∈ insR S x → z = x ∨ z ∈ S
  | [], x, z, h => by simp [insR] at h; exact .inl h
  | y :: S, x, z, h => by
    rw [insR] at h
    split at h
    · rcases List.mem_cons.1 h with rfl | h
      · exact .inr (by simp)
      · exact (ins_mem h).imp id fun h => by simp [h]
    · split at h
      · rcases List.mem_cons.1 h with rfl | h
        · exact .inl rfl
        · exact .inr (by simp [h])
      · rcases List.mem_cons.1 h with rfl | h
        · exact .inl rfl
        · exact .inr h
theorem ins_get : ∀ {S : List En}, Srt (pl S) → ∀ (x : En) (j : ByteArray), getS (insR S x) j = if x.key = j then some x else getS S j
  | [], _, x, j => by simp [insR, getS]
  | y :: S, hs, x, j => by
    have hp := List.pairwise_cons.1 hs
    rw [insR]
    by_cases h : cmpS y.key x.key < 0
    · have hne : y.key ≠ x.key := fun e => by rw [e, cmpS_self] at h; exact absurd h (by decide)
      rw [if_pos h, getS, getS, ins_get hp.2 x j]
      by_cases hj : y.key = j
      · rw [if_pos hj, if_pos hj, if_neg (fun e => hne (by rw [hj, e]))]
      · rw [if_neg hj, if_neg hj]
    · rw [if_neg h]
      by_cases hk : y.key = x.key
      · rw [if_pos hk, getS, getS, hk]
        by_cases hj : x.key = j
        · rw [if_pos hj, if_pos hj]
        · rw [if_neg hj, if_neg hj, if_neg hj]
      · rw [if_neg hk, getS]
theorem ins_end {S : List En} (hs : Srt (pl S)) (x : En) (j : ByteArray) : endOf (insR S x) j = if x.key = j then x.e else endOf S j := by
  rw [endOf_get, ins_get hs, endOf_get S j]
  split <;> rfl
theorem put_pos {S : List En} {x : En} (hs : Srt (pl S)) (hl : (getS S x.key).isSome = true ∨ S.length ≠ 20000) : putP (pl S) (toP x) (posP (pl S) x.key) = (0, pl (insR S x)) := by
  have key : ∀ S : List En, Srt (pl S) → (if isP (pl S) x.key (posP (pl S) x.key) = true then (pl S).set (posP (pl S) x.key) (toP x) else (pl S).take (posP (pl S) x.key) ++ toP x :: (pl S).drop (posP (pl S) x.key)) = pl (insR S x) := by
    intro S
    induction S with
    | nil => intro _; rfl
    | cons y S ih =>
      intro hs
      have hp := List.pairwise_cons.1 hs
      have e : pl (y :: S) = toP y :: pl S := rfl
      rw [e, posP, insR]
      by_cases h : cmpS y.key x.key < 0
      · have h' : cmpS (toP y).key x.key < 0 := h
        rw [if_pos h', if_pos h, isP_shift, List.set_cons_succ, List.take_succ_cons, List.drop_succ_cons, List.cons_append]
        have := ih hp.2
        rw [show pl (y :: insR S x) = toP y :: pl (insR S x) from rfl, ← this]
        split <;> rfl
      · have h' : ¬ cmpS (toP y).key x.key < 0 := h
        rw [if_neg h', if_neg h]
        have hz : isP (toP y :: pl S) x.key 0 = decide (cmpS y.key x.key = 0) := by
          unfold isP
          rw [List.getElem?_cons_zero]
          rfl
        rw [hz]
        by_cases hk : y.key = x.key
        · rw [if_pos (decide_eq_true (cmpS_eq.2 hk)), if_pos hk]
          rfl
        · rw [if_neg (by simpa using fun e => hk (cmpS_eq.1 e)), if_neg hk]
          rfl
  have h1 := (get_pos hs x.key).1
  have h2 := key S hs
  unfold putP
  show (if isP (pl S) x.key (posP (pl S) x.key) = true then (0, (pl S).set (posP (pl S) x.key) (toP x)) else if (pl S).length = 20000 then (7, pl S) else (0, (pl S).take (posP (pl S) x.key) ++ toP x :: (pl S).drop (posP (pl S) x.key))) = _
  by_cases hi : isP (pl S) x.key (posP (pl S) x.key) = true
  · rw [if_pos hi] at h2 ⊢
    rw [h2]
  · rw [if_neg hi] at h2 ⊢
    have hn : ¬ (pl S).length = 20000 := by
      rcases hl with hl | hl
      · rw [← h1] at hl; exact absurd hl hi
      · simpa [pl] using hl
    rw [if_neg hn, h2]
theorem ins_srt {S : List En} (hs : Srt (pl S)) (x : En) (hl : S.length < 20000 ∨ (getS S x.key).isSome = true) : Srt (pl (insR S x)) := by
  have h1 := put_pos (x := x) hs (hl.symm.imp id fun h => by omega)
  have h2 := srt_put hs (toP x)
  rw [show (toP x).key = x.key from rfl, h1] at h2
  exact h2
theorem ins_len_le : ∀ (S : List En) (x : En), (insR S x).length ≤ S.length + 1
  | [], _ => Nat.le_refl _
  | y :: S, x => by
    rw [insR]
    split
    · have := ins_len_le S x; simp; omega
    · split <;> simp
theorem ins_len_has : ∀ {S : List En}, Srt (pl S) → ∀ {x : En}, (getS S x.key).isSome = true → (insR S x).length = S.length
  | y :: S, hs, x, h => by
    have hp := List.pairwise_cons.1 hs
    rw [insR]
    rw [getS] at h
    by_cases c : cmpS y.key x.key < 0
    · have hne : y.key ≠ x.key := fun e => by rw [e, cmpS_self] at c; exact absurd c (by decide)
      rw [if_neg hne] at h
      rw [if_pos c]
      simp [ins_len_has hp.2 h]
    · rw [if_neg c]
      by_cases hk : y.key = x.key
      · rw [if_pos hk]; rfl
      · rw [if_neg hk, low_none hs c hk] at h
        cases h
  | [], _, x, h => by cases h
/-- A key that is there gets another end: the pairs are the same. -/
theorem ins_same : ∀ {S : List En}, Srt (pl S) → ∀ {k : ByteArray} {x : En} (n : Nat), getS S k = some x → pl (insR S ⟨k, x.val, n⟩) = pl S
  | y :: S, hs, k, x, n, h => by
    have hp := List.pairwise_cons.1 hs
    rw [getS] at h
    rw [insR]
    by_cases c : cmpS y.key k < 0
    · have hne : y.key ≠ k := fun e => by rw [e, cmpS_self] at c; exact absurd c (by decide)
      rw [if_neg hne] at h
      rw [if_pos c]
      show toP y :: pl (insR S ⟨k, x.val, n⟩) = _
      rw [ins_same hp.2 n h]
      rfl
    · rw [if_neg c]
      by_cases hk : y.key = k
      · rw [if_pos hk] at h
        cases h
        rw [if_pos hk]
        show toP ⟨k, y.val, n⟩ :: pl S = toP y :: pl S
        rw [← hk]
        rfl
      · rw [if_neg hk, low_none hs c hk] at h
        cases h
  | [], _, k, x, n, h => by cases h

/-! ### deletion -/
theorem del_mem : ∀ {S : List En} {k : ByteArray} {z : En}, z ∈ delR S k → z ∈ S
  | y :: S, k, z, h => by
    rw [delR] at h
    split at h
    · simp [h]
    · rcases List.mem_cons.1 h with rfl | h
      · simp
      · simp [del_mem h]
theorem del_get : ∀ {S : List En}, Srt (pl S) → ∀ (k j : ByteArray), getS (delR S k) j = if k = j then none else getS S j
  | [], _, k, j => by simp [delR, getS]
  | y :: S, hs, k, j => by
    have hp := List.pairwise_cons.1 hs
    rw [delR]
    by_cases h : y.key = k
    · rw [if_pos h]
      by_cases hj : k = j
      · rw [if_pos hj]
        exact low_none hs (by rw [h, hj, cmpS_self]; decide) |> fun f => getS_none fun x hx e => by
          have h1 : cmpS y.key x.key < 0 := hp.1 (toP x) (List.mem_map_of_mem hx)
          rw [e, ← hj, h, cmpS_self] at h1
          exact absurd h1 (by decide)
      · rw [if_neg hj, getS, if_neg (fun e => hj (by rw [← h, e]))]
    · rw [if_neg h, getS, getS, del_get hp.2 k j]
      by_cases hj : y.key = j
      · rw [if_pos hj, if_pos hj, if_neg (fun e => h (by rw [hj, e]))]
      · rw [if_neg hj, if_neg hj]
theorem del_end {S : List En} (hs : Srt (pl S)) (k j : ByteArray) : endOf (delR S k) j = if k = j then 0 else endOf S j := by
  rw [endOf_get, del_get hs, endOf_get S j]
  split <;> rfl
theorem del_pos : ∀ {S : List En}, Srt (pl S) → ∀ (k : ByteArray), (if isP (pl S) k (posP (pl S) k) = true then (pl S).take (posP (pl S) k) ++ (pl S).drop (posP (pl S) k + 1) else pl S) = pl (delR S k)
  | [], _, k => rfl
  | y :: S, hs, k => by
    have hp := List.pairwise_cons.1 hs
    have e : pl (y :: S) = toP y :: pl S := rfl
    rw [e, posP, delR]
    by_cases h : cmpS y.key k < 0
    · have h' : cmpS (toP y).key k < 0 := h
      have hne : y.key ≠ k := fun e => by rw [e, cmpS_self] at h; exact absurd h (by decide)
      rw [if_pos h', if_neg hne, isP_shift, List.take_succ_cons, List.drop_succ_cons, List.cons_append]
      have := del_pos hp.2 k
      rw [show pl (y :: delR S k) = toP y :: pl (delR S k) from rfl, ← this]
      split <;> rfl
    · have h' : ¬ cmpS (toP y).key k < 0 := h
      rw [if_neg h']
      have hz : isP (toP y :: pl S) k 0 = decide (cmpS y.key k = 0) := by
        unfold isP
        rw [List.getElem?_cons_zero]
        rfl
      rw [hz]
      by_cases hk : y.key = k
      · rw [if_pos (decide_eq_true (cmpS_eq.2 hk)), if_pos hk]
        rfl
      · rw [if_neg (by simpa using fun e => hk (cmpS_eq.1 e)), if_neg hk]
        have hno := low_none hs h hk
        have hdel : ∀ S : List En, getS S k = none → delR S k = S := by
          intro S
          induction S with
          | nil => intro _; rfl
          | cons z S ih =>
            intro hn
            rw [getS] at hn
            by_cases hz : z.key = k
            · rw [if_pos hz] at hn; cases hn
            · rw [if_neg hz] at hn
              rw [delR, if_neg hz, ih hn]
        rw [hdel S hno]
        rfl
theorem del_srt {S : List En} (hs : Srt (pl S)) (k : ByteArray) : Srt (pl (delR S k)) := by
  rw [← del_pos hs]
  split
  · exact srt_del hs _
  · exact hs
theorem del_len_le : ∀ (S : List En) (k : ByteArray), (delR S k).length ≤ S.length
  | [], _ => Nat.le_refl _
  | y :: S, k => by
    rw [delR]
    split
    · simp
    · have := del_len_le S k; simp; omega

end Go.Proofs.Ythjjkinpbpealaa

/-
  Chapter 45: a store: Put, Get, Extend, Delete, Pass, Now.
  Conditions: none. By an AI agent.
-/
set_option maxRecDepth 10000
set_option linter.unusedSimpArgs false
set_option linter.unusedVariables false
namespace Go.Proofs.Ythjjkinpbpealaa
open Go Eng
attribute [local congr] bareK_congr' bothK_congr' quietK_congr'

abbrev pt (b : Nat) : Value := .pointer (some ⟨b, 0, none⟩)
def aliveB (S : List En) (now : Nat) (k : ByteArray) : Bool := (getS S k).isSome && !endB S now k
def putX (S : List En) (now : Nat) (k v : ByteArray) (n : Int) : Int × List En :=
  if n < 0 ∨ 1099511627776 < n then (2, S)
  else if chk k [v] ≠ 0 then (chk k [v], S)
  else if 0 < n ∧ n ≤ now then (14, S)
  else if (getS S k).isNone ∧ S.length = 20000 then (7, S)
  else (0, insR S ⟨k, v, n.toNat⟩)
def getX (S : List En) (now : Nat) (k : ByteArray) : ByteArray × Nat × Int :=
  if chk k [] ≠ 0 then (mk [], 0, chk k [])
  else match getS S k with
    | some x => if endB S now k then (mk [], 0, 9) else (x.val, x.e, 0)
    | none => (mk [], 0, 9)
def extX (S : List En) (now : Nat) (k : ByteArray) (n : Int) : Int × List En :=
  if n < 0 ∨ 1099511627776 < n then (2, S)
  else if chk k [] ≠ 0 then (chk k [], S)
  else if 0 < n ∧ n ≤ now then (14, S)
  else if endB S now k then (9, S)
  else match getS S k with
    | some x => (0, insR S ⟨k, x.val, n.toNat⟩)
    | none => (9, S)
def delX (S : List En) (now : Nat) (k : ByteArray) : Int × List En :=
  if (getX S now k).2.2 ≠ 0 then ((getX S now k).2.2, S) else (0, delR S k)
def passX (now : Nat) (n : Int) : Int × Nat :=
  if n < 0 ∨ 1099511627776 < n then (2, now) else if n < now then (14, now) else (0, n.toNat)

theorem chk_e (k : ByteArray) : chk k [mk []] = chk k [] := by
  unfold chk
  have : ([mk []] : List ByteArray).any (fun a => decide (40 < (bl a).length)) = false := by simp [bl_mk]
  rw [this]
  simp
theorem chk_key {k v : ByteArray} (h : chk k [v] = 0) : chk k [] = 0 := by
  unfold chk at h ⊢
  split at h
  · cases h
  · rename_i h1
    rw [if_neg h1]
    split at h
    · cases h
    · rename_i h2
      rw [if_neg (fun e => h2 (by simp at e; exact .inl e))]

section
variable {H : AHeap} {c : Nat} {m : Option Nat} {E : Ec} {S : List En} {now : Nat}

theorem q_xNow (r : StR H c m E S now) : CC F.expire_Store_Now [pt c] H = some (.int .i64 (now : Int), H) := by
  obtain ⟨v, h1, _⟩ := r.md
  have h1 : H.f c = .cells [v, .map m, .int .i64 (now : Int)] T.expire_Store true := h1
  apply pure_of _ (d_expire_Store_Now _ H) rfl
  rotate_left 2
  · simp (disch := first | with_reducible rfl | assumption | omega | rfl | (simp only [go_sem]; first | done | omega)) only [go_sem, ↓reduceIte, reduceCtorEq, Nat.reduceEqDiff, Nat.reduceAdd, Nat.reduceSub, Nat.reduceMul, Nat.reduceDiv, Nat.reduceMod, Nat.reduceLeDiff, Nat.reduceLT, Nat.reduceBEq, Int.reduceEq, Int.reduceBEq, Int.reduceBNe, Int.reduceLT, Int.reduceLE, Int.reduceAdd, Int.reduceSub, Int.reduceNeg, Int.reduceToNat, Int.reducePow, Nat.reducePow, Int.reduceMul, Int.reduceDiv, ↓s_expire_Store_Now, h1]
    rfl
  · (repeat (first | exact Fr.refl _ | refine Fr.push ?_ _ | refine Fr.set ?_ _ _ (by intro h; first | omega | (simp only [go_sem] at h; omega))))

theorem q_mGet (r : StR H c m E S now) (k : ByteArray) (hc : chk k [] = 0) : CC F.model_Model_Get [pt c, .string k] H = some ((match getS S k with | some x => .tuple #[.string x.val, .int .i64 0] | none => .tuple #[.string (mk []), .int .i64 9]), H) := by
  have h := q_getM c (pl S) k H r.md r.srt (by have := r.len; simpa [pl] using this)
  rw [h]
  unfold getE getP
  rw [if_pos hc]
  obtain ⟨g1, g2⟩ := get_pos r.srt k
  rw [g1]
  cases hg : getS S k with
  | none => rfl
  | some x =>
    rw [g2 x hg]
    rfl

theorem q_xGet (ok : Ok H) (r : StR H c m E S now) (k : ByteArray) : CC F.expire_Store_Get [pt c, .string k] H = some (.tuple #[.string (getX S now k).1, .int .i64 ((getX S now k).2.1 : Int), .int .i64 (getX S now k).2.2], H) := by
  have e1 := q_xcheck k (mk []) H ok
  rw [chk_e] at e1
  unfold getX
  by_cases hc : chk k [] = 0
  · rw [if_neg (fun h => h hc)]
    rw [hc] at e1
    have e2 := q_mGet r k hc
    have e3 := q_ended r k
    have hl := r.look k
    have hend := endOf_get S k
    obtain ⟨v, h1, _⟩ := r.md
    have h1 : H.f c = .cells [v, .map m, .int .i64 (now : Int)] T.expire_Store true := h1
    cases hg : getS S k with
    | none =>
      rw [hg] at e2
      have e2 : CC F.model_Model_Get [pt c, .string k] H = some (.tuple #[.string (mk []), .int .i64 9], H) := e2
      apply pure_of _ (d_expire_Store_Get _ _ H) rfl
      rotate_left 2
      · simp (disch := first | with_reducible rfl | assumption | omega | rfl | (simp only [go_sem]; first | done | omega)) only [go_sem, ↓reduceIte, reduceCtorEq, Nat.reduceEqDiff, Nat.reduceAdd, Nat.reduceSub, Nat.reduceMul, Nat.reduceDiv, Nat.reduceMod, Nat.reduceLeDiff, Nat.reduceLT, Nat.reduceBEq, Int.reduceEq, Int.reduceBEq, Int.reduceBNe, Int.reduceLT, Int.reduceLE, Int.reduceAdd, Int.reduceSub, Int.reduceNeg, Int.reduceToNat, Int.reducePow, Nat.reducePow, Int.reduceMul, Int.reduceDiv, ↓s_expire_Store_Get, ↓enterK_eq e1, enterK_eq e1, ↓enterK_eq e2, enterK_eq e2]
        rfl
      · (repeat (first | exact Fr.refl _ | refine Fr.push ?_ _ | refine Fr.set ?_ _ _ (by intro h; first | omega | (simp only [go_sem] at h; omega))))
    | some x =>
      rw [hg] at e2 hend
      have hend : endOf S k = x.e := hend
      have e2 : CC F.model_Model_Get [pt c, .string k] H = some (.tuple #[.string x.val, .int .i64 0], H) := e2
      cases hb : endB S now k with
      | true =>
        rw [hb] at e3
        apply pure_of _ (d_expire_Store_Get _ _ H) rfl
        rotate_left 2
        · simp (disch := first | with_reducible rfl | assumption | omega | rfl | (simp only [go_sem]; first | done | omega)) only [go_sem, ↓reduceIte, reduceCtorEq, Nat.reduceEqDiff, Nat.reduceAdd, Nat.reduceSub, Nat.reduceMul, Nat.reduceDiv, Nat.reduceMod, Nat.reduceLeDiff, Nat.reduceLT, Nat.reduceBEq, Int.reduceEq, Int.reduceBEq, Int.reduceBNe, Int.reduceLT, Int.reduceLE, Int.reduceAdd, Int.reduceSub, Int.reduceNeg, Int.reduceToNat, Int.reducePow, Nat.reducePow, Int.reduceMul, Int.reduceDiv, ↓s_expire_Store_Get, ↓enterK_eq e1, enterK_eq e1, ↓enterK_eq e2, enterK_eq e2, ↓enterK_eq e3, enterK_eq e3]
          rfl
        · (repeat (first | exact Fr.refl _ | refine Fr.push ?_ _ | refine Fr.set ?_ _ _ (by intro h; first | omega | (simp only [go_sem] at h; omega))))
      | false =>
        rw [hb] at e3
        rw [hend] at hl
        apply pure_of _ (d_expire_Store_Get _ _ H) rfl
        rotate_left 2
        · simp (disch := first | with_reducible rfl | assumption | omega | rfl | (simp only [go_sem]; first | done | omega)) only [go_sem, ↓reduceIte, reduceCtorEq, Nat.reduceEqDiff, Nat.reduceAdd, Nat.reduceSub, Nat.reduceMul, Nat.reduceDiv, Nat.reduceMod, Nat.reduceLeDiff, Nat.reduceLT, Nat.reduceBEq, Int.reduceEq, Int.reduceBEq, Int.reduceBNe, Int.reduceLT, Int.reduceLE, Int.reduceAdd, Int.reduceSub, Int.reduceNeg, Int.reduceToNat, Int.reducePow, Nat.reducePow, Int.reduceMul, Int.reduceDiv, ↓s_expire_Store_Get, ↓enterK_eq e1, enterK_eq e1, ↓enterK_eq e2, enterK_eq e2, ↓enterK_eq e3, enterK_eq e3, h1, hl]
          rfl
        · (repeat (first | exact Fr.refl _ | refine Fr.push ?_ _ | refine Fr.set ?_ _ _ (by intro h; first | omega | (simp only [go_sem] at h; omega))))
  · rw [if_pos hc]
    generalize chk k [] = x at e1 hc ⊢
    apply pure_of _ (d_expire_Store_Get _ _ H) rfl
    rotate_left 2
    · simp (disch := first | with_reducible rfl | assumption | omega | rfl | (simp only [go_sem]; first | done | omega)) only [go_sem, ↓reduceIte, reduceCtorEq, Nat.reduceEqDiff, Nat.reduceAdd, Nat.reduceSub, Nat.reduceMul, Nat.reduceDiv, Nat.reduceMod, Nat.reduceLeDiff, Nat.reduceLT, Nat.reduceBEq, Int.reduceEq, Int.reduceBEq, Int.reduceBNe, Int.reduceLT, Int.reduceLE, Int.reduceAdd, Int.reduceSub, Int.reduceNeg, Int.reduceToNat, Int.reducePow, Nat.reducePow, Int.reduceMul, Int.reduceDiv, ↓s_expire_Store_Get, ↓enterK_eq e1, enterK_eq e1, hc]
      rfl
    · (repeat (first | exact Fr.refl _ | refine Fr.push ?_ _ | refine Fr.set ?_ _ _ (by intro h; first | omega | (simp only [go_sem] at h; omega))))

/-- What set makes of a store of which the pairs are those of another list already. -/
theorem q_setS {H1 : AHeap} {S' : List En} (k : ByteArray) (n : Nat) (ok1 : Ok H1) (md : MdlT (stT m now) H1 c (pl S')) (mi : MapIs H1 c m E) (sp : ∀ mb, m = some mb → ¬ MBT (stT m now) H1 c mb) (nd : (E.map (·.1)).Nodup) (lk : ∀ j, lkp (setE E k n) j = if endOf S' j = 0 then none else some (endOf S' j))
    (srt : Srt (pl S')) (len : S'.length ≤ 20000) (ends : ∀ x ∈ S', x.e ≤ 1099511627776) (nw : now ≤ 1099511627776) (keys : ∀ x ∈ S', chk x.key [] = 0) :
    ∃ m' H', CC F.expire_Store_set [pt c, .string k, .int .i64 (n : Int)] H1 = some (.tuple #[], H') ∧ StR H' c m' (setE E k n) S' now ∧ Fr (fun b => b = c ∨ m = some b) H1 H' ∧ ∀ b, OB H' c b → MBT (stT m now) H1 c b ∨ m = some b ∨ H1.n ≤ b := by
  obtain ⟨v, h1, h2, h3, h4⟩ := md
  have h1 : H1.f c = .cells [v, .map m, .int .i64 (now : Int)] T.expire_Store true := h1
  obtain ⟨m', H', e, f', mi', fr, hm'⟩ := q_xset (now := (now : Int)) k n ok1 h2 h1 h3.cell mi
  have hvs : ∀ b, blockOf v = some b → b < H1.n ∧ b ≠ c ∧ m ≠ some b := fun b hb => ⟨h3.blk hb, fun e => h4 (by rw [← e]; exact hb), fun e => sp b e (.inr ⟨v, h1, hb⟩)⟩
  have hn := fr.n
  have md' : MdlT (stT m' now) H' c (pl S') := ⟨v, f', by omega, h3.keep fr fun b hb h => by
    obtain ⟨_, g2, g3⟩ := hvs b hb
    exact h.elim g2 g3, h4⟩
  have sp' : ∀ mb, m' = some mb → ¬ MBT (stT m' now) H' c mb := fun mb e h => by
    rcases h with h | ⟨u, hu, hb⟩
    · exact mi'.ne mb e h
    · have hu : H'.f c = .cells [u, .map m', .int .i64 (now : Int)] T.expire_Store true := hu
      rw [f'] at hu
      cases hu
      obtain ⟨g1, g2, g3⟩ := hvs mb hb
      rcases hm' mb e with h | h
      · exact g3 h
      · omega
  refine ⟨m', H', e, ⟨md', mi', sp', nd_set nd k n, lk, srt, len, ends, nw, keys⟩, fr, fun b hb => ?_⟩
  rcases hb with hb | ⟨u, m2, n2, hu, hb⟩
  · exact .inl (.inl hb)
  · rw [f'] at hu
    cases hu
    rcases hb with hb | hb
    · exact .inl (.inr ⟨v, h1, hb⟩)
    · rcases hm' b hb with h | h
      · exact .inr (.inl h)
      · exact .inr (.inr h.1)

/-- A call of a store behind which something is told: where the call is forgotten, it was so before. -/
theorem tidyX {H' : AHeap} {m' : Option Nat} {E' : Ec} {S' : List En} {now' : Nat} {v : Value} (ok : Ok H) (r : StR H c m E S now) (r3 : StR H' c m' E' S' now') (u : UpX H c H') :
    ∃ m2 E2 H2, tidy H (v, H') = (v, H2) ∧ StR H2 c m2 E2 S' now' ∧ UpX H c H2 := by
  have hcl : c < H.n := r.lt (.inl rfl)
  unfold tidy
  split
  · rename_i hg
    simp only [Bool.and_eq_true] at hg
    have hsame : ∀ b, b < H.n → H'.f b = H.f b := fun b hb => by
      rcases u.fr.old b hb with h | ⟨h, _⟩
      · exact h.2
      · have := List.all_eq_true.1 hg.2 b (by simpa using hb)
        have := ok b
        simp at *
        omega
    have hfc : H.f c = H'.f c := (hsame c hcl).symm
    have hobl : ∀ b, OB H' c b → b < H.n := fun b hb => by
      have : OB H c b := by unfold OB at hb ⊢; rw [hfc]; exact hb
      exact r.lt this
    refine ⟨m', E', H, rfl, ?_, UpX.refl H c⟩
    obtain ⟨v', a1, a2, a3, a4⟩ := r3.md
    refine ⟨⟨v', by rw [hfc]; exact a1, hcl, ?_, a4⟩, ?_, fun mb e h => r3.sp mb e (h.imp id fun ⟨u, hu, hb⟩ => ⟨u, by rw [← hfc]; exact hu, hb⟩), r3.nd, r3.lk, r3.srt, r3.len, r3.ends, r3.nw, r3.keys⟩
    · rcases a3 with h | ⟨hl, x, hv, hs, hb⟩ | ⟨bb, o, cc, xs, hv, hlc, hb, hff, ho, hx⟩
      · exact .inl h
      · exact .inr (.inl ⟨hl, x, hv, hs, hobl _ ((r3.blk _).2 (.inl (.inr ⟨v', a1, by rw [hv]; rfl⟩)))⟩)
      · have hbb : bb < H.n := hobl _ ((r3.blk _).2 (.inl (.inr ⟨v', a1, by rw [hv]; rfl⟩)))
        exact .inr (.inr ⟨bb, o, cc, xs, hv, hlc, hbb, by rw [← hsame bb hbb]; exact hff, ho, hx⟩)
    · have hmi := r3.mi
      cases hm : m' with
      | none => rw [hm] at hmi; exact hmi
      | some mb =>
        rw [hm] at hmi
        obtain ⟨b1, b2, b3⟩ := hmi
        have hmb : mb < H.n := hobl _ ((r3.blk _).2 (.inr hm))
        exact ⟨by rw [← hsame mb hmb]; exact b1, hmb, b3⟩
  · exact ⟨m', E', H', rfl, r3, u⟩

theorem q_xPut (ok : Ok H) (r : StR H c m E S now) (k v : ByteArray) (n : Int) :
    ∃ m' E' H', CC F.expire_Store_Put [pt c, .string k, .string v, .int .i64 n] H = some (.int .i64 (putX S now k v n).1, H') ∧ StR H' c m' E' (putX S now k v n).2 now ∧ UpX H c H' := by
  unfold putX
  have e1 := q_xcheck k v H ok
  have hcl : c < H.n := r.lt (.inl rfl)
  obtain ⟨v0, f0, _⟩ := r.md
  have f0 : H.f c = .cells [v0, .map m, .int .i64 (now : Int)] T.expire_Store true := f0
  by_cases h1 : n < 0 ∨ 1099511627776 < n
  · rw [if_pos h1]
    refine ⟨m, E, H, ?_, r, UpX.refl H c⟩
    by_cases h2 : n < 0
    · apply pure_of _ (d_expire_Store_Put _ _ _ _ H) rfl
      rotate_left 2
      · simp (disch := first | with_reducible rfl | assumption | omega | rfl | (simp only [go_sem]; first | done | omega)) only [go_sem, ↓reduceIte, reduceCtorEq, Nat.reduceEqDiff, Nat.reduceAdd, Nat.reduceSub, Nat.reduceMul, Nat.reduceDiv, Nat.reduceMod, Nat.reduceLeDiff, Nat.reduceLT, Nat.reduceBEq, Int.reduceEq, Int.reduceBEq, Int.reduceBNe, Int.reduceLT, Int.reduceLE, Int.reduceAdd, Int.reduceSub, Int.reduceNeg, Int.reduceToNat, Int.reducePow, Nat.reducePow, Int.reduceMul, Int.reduceDiv, ↓s_expire_Store_Put, h2]
        rfl
      · (repeat (first | exact Fr.refl _ | refine Fr.push ?_ _ | refine Fr.set ?_ _ _ (by intro h; first | omega | (simp only [go_sem] at h; omega))))
    · have h3 : 1099511627776 < n := h1.resolve_left h2
      apply pure_of _ (d_expire_Store_Put _ _ _ _ H) rfl
      rotate_left 2
      · simp (disch := first | with_reducible rfl | assumption | omega | rfl | (simp only [go_sem]; first | done | omega)) only [go_sem, ↓reduceIte, reduceCtorEq, Nat.reduceEqDiff, Nat.reduceAdd, Nat.reduceSub, Nat.reduceMul, Nat.reduceDiv, Nat.reduceMod, Nat.reduceLeDiff, Nat.reduceLT, Nat.reduceBEq, Int.reduceEq, Int.reduceBEq, Int.reduceBNe, Int.reduceLT, Int.reduceLE, Int.reduceAdd, Int.reduceSub, Int.reduceNeg, Int.reduceToNat, Int.reducePow, Nat.reducePow, Int.reduceMul, Int.reduceDiv, ↓s_expire_Store_Put, h2, h3]
        rfl
      · (repeat (first | exact Fr.refl _ | refine Fr.push ?_ _ | refine Fr.set ?_ _ _ (by intro h; first | omega | (simp only [go_sem] at h; omega))))
  rw [if_neg h1]
  have h2 : ¬ n < 0 := fun h => h1 (.inl h)
  have h3 : ¬ 1099511627776 < n := fun h => h1 (.inr h)
  by_cases hc : chk k [v] = 0
  · rw [if_neg (fun h => h hc)]
    rw [hc] at e1
    obtain ⟨N, rfl⟩ : ∃ N : Nat, n = (N : Int) := ⟨n.toNat, by omega⟩
    rw [Int.toNat_natCast]
    by_cases h4 : (0 : Int) < (N : Int) ∧ (N : Int) ≤ (now : Int)
    · rw [if_pos h4]
      obtain ⟨h5, h6⟩ := h4
      refine ⟨m, E, H, ?_, r, UpX.refl H c⟩
      apply pure_of _ (d_expire_Store_Put _ _ _ _ H) rfl
      rotate_left 2
      · simp (disch := first | with_reducible rfl | assumption | omega | rfl | (simp only [go_sem]; first | done | omega)) only [go_sem, ↓reduceIte, reduceCtorEq, Nat.reduceEqDiff, Nat.reduceAdd, Nat.reduceSub, Nat.reduceMul, Nat.reduceDiv, Nat.reduceMod, Nat.reduceLeDiff, Nat.reduceLT, Nat.reduceBEq, Int.reduceEq, Int.reduceBEq, Int.reduceBNe, Int.reduceLT, Int.reduceLE, Int.reduceAdd, Int.reduceSub, Int.reduceNeg, Int.reduceToNat, Int.reducePow, Nat.reducePow, Int.reduceMul, Int.reduceDiv, ↓s_expire_Store_Put, h2, h3, ↓enterK_eq e1, enterK_eq e1, h5, h6, f0]
        rfl
      · (repeat (first | exact Fr.refl _ | refine Fr.push ?_ _ | refine Fr.set ?_ _ _ (by intro h; first | omega | (simp only [go_sem] at h; omega))))
    rw [if_neg h4]
    have hlen := r.len
    have hpl : (pl S).length = S.length := by simp [pl]
    obtain ⟨H1, e2, md1, up1⟩ := q_putM c (pl S) ⟨k, v⟩ H ok r.md r.srt (by omega)
    have hput : putE (pl S) ⟨k, v⟩ = putP (pl S) ⟨k, v⟩ (posP (pl S) k) := by
      unfold putE
      exact if_pos hc
    rw [hput] at e2 md1
    by_cases hfull : (getS S k).isNone = true ∧ S.length = 20000
    · rw [if_pos hfull]
      have hp : putP (pl S) ⟨k, v⟩ (posP (pl S) k) = (7, pl S) := by
        unfold putP
        have g1 := (get_pos r.srt k).1
        have : (getS S k).isSome = false := by have := hfull.1; cases hg : getS S k with | none => rfl | some x => rw [hg] at this; cases this
        rw [this] at g1
        show (if isP (pl S) k (posP (pl S) k) = true then _ else _) = _
        rw [g1, if_neg (by decide), if_pos (by omega)]
      rw [hp] at e2 md1
      have frc : Fr (OB H c) H H1 := up1.fr.mono fun b _ h => (r.blk b).2 (.inl h)
      have fc1 : H1.f c = H1.f c := rfl
      have r1 : StR H1 c m E S now := ⟨md1, r.mi.keep up1.fr fun mb e h => r.sp mb e h, fun mb e h => by
        rcases up1.mb mb h with h | h
        · exact r.sp mb e h
        · have := r.mi.lt mb e; omega, r.nd, r.lk, r.srt, r.len, r.ends, r.nw, r.keys⟩
      have ub : ∀ b, OB H1 c b → OB H c b ∨ H.n ≤ b := fun b hb => by
        rcases (r1.blk b).1 hb with h | h
        · exact (up1.mb b h).imp (fun h => (r.blk b).2 (.inl h)) id
        · exact .inl ((r.blk b).2 (.inr h))
      obtain ⟨v1, g1, _⟩ := md1
      have g1 : H1.f c = .cells [v1, .map m, .int .i64 (now : Int)] T.expire_Store true := g1
      obtain ⟨m2, E2, H2, ht, r2, u2⟩ := tidyX (v := .int .i64 7) ok r r1 ⟨frc, ub⟩
      refine ⟨m2, E2, H2, (d_expire_Store_Put _ _ _ _ H (r := (.int .i64 7, H1)) ?_).trans (congrArg some ht), r2, u2⟩
      by_cases h5 : (0 : Int) < (N : Int)
      · have h6 : ¬ (N : Int) ≤ (now : Int) := fun h => h4 ⟨h5, h⟩
        simp (disch := first | with_reducible rfl | assumption | omega | rfl | (simp only [go_sem]; first | done | omega)) only [go_sem, ↓reduceIte, reduceCtorEq, Nat.reduceEqDiff, Nat.reduceAdd, Nat.reduceSub, Nat.reduceMul, Nat.reduceDiv, Nat.reduceMod, Nat.reduceLeDiff, Nat.reduceLT, Nat.reduceBEq, Int.reduceEq, Int.reduceBEq, Int.reduceBNe, Int.reduceLT, Int.reduceLE, Int.reduceAdd, Int.reduceSub, Int.reduceNeg, Int.reduceToNat, Int.reducePow, Nat.reducePow, Int.reduceMul, Int.reduceDiv, ↓s_expire_Store_Put, h2, h3, ↓enterK_eq e1, enterK_eq e1, h5, h6, f0, ↓enterK_eq e2, enterK_eq e2]
      · simp (disch := first | with_reducible rfl | assumption | omega | rfl | (simp only [go_sem]; first | done | omega)) only [go_sem, ↓reduceIte, reduceCtorEq, Nat.reduceEqDiff, Nat.reduceAdd, Nat.reduceSub, Nat.reduceMul, Nat.reduceDiv, Nat.reduceMod, Nat.reduceLeDiff, Nat.reduceLT, Nat.reduceBEq, Int.reduceEq, Int.reduceBEq, Int.reduceBNe, Int.reduceLT, Int.reduceLE, Int.reduceAdd, Int.reduceSub, Int.reduceNeg, Int.reduceToNat, Int.reducePow, Nat.reducePow, Int.reduceMul, Int.reduceDiv, ↓s_expire_Store_Put, h2, h3, ↓enterK_eq e1, enterK_eq e1, h5, f0, ↓enterK_eq e2, enterK_eq e2]
    rw [if_neg hfull]
    have hroom : (getS S k).isSome = true ∨ S.length ≠ 20000 := by
      cases hg : getS S k with
      | some x => exact .inl rfl
      | none => exact .inr fun h => hfull ⟨by rw [hg]; rfl, h⟩
    have hp := put_pos (x := ⟨k, v, N⟩) r.srt hroom
    have hp : putP (pl S) ⟨k, v⟩ (posP (pl S) k) = (0, pl (insR S ⟨k, v, N⟩)) := hp
    rw [hp] at e2 md1
    have ok1 : Ok H1 := up1.fr.ok ok
    have n1 := up1.fr.n
    obtain ⟨m', H', e3, r3, fr3, ob3⟩ := q_setS (now := now) (m := m) (E := E) (S' := insR S ⟨k, v, N⟩) k N ok1 md1 (r.mi.keep up1.fr fun mb e h => r.sp mb e h) (fun mb e h => by
        rcases up1.mb mb h with h | h
        · exact r.sp mb e h
        · have := r.mi.lt mb e; omega) r.nd (fun j => by
        rw [lkp_set, ins_end r.srt, r.lk]
        show _ = if (if k = j then N else endOf S j) = 0 then none else some (if k = j then N else endOf S j)
        by_cases hj : k = j
        · rw [if_pos hj, if_pos hj]
        · rw [if_neg hj, if_neg hj])
      (ins_srt r.srt _ (by rcases hroom with h | h; exact .inr h; exact .inl (by omega)))
      (by
        rcases hroom with h | h
        · rw [ins_len_has r.srt h]; exact hlen
        · have := ins_len_le S ⟨k, v, N⟩; omega)
      (fun x hx => by
        rcases ins_mem hx with rfl | hx
        · show N ≤ _; omega
        · exact r.ends x hx) r.nw
      (fun x hx => by
        rcases ins_mem hx with rfl | hx
        · exact chk_key hc
        · exact r.keys x hx)
    have frA : Fr (OB H c) H H' := (up1.fr.mono fun b _ h => (r.blk b).2 (.inl h)).then fr3 fun b hb h => by
      rcases h with h | h
      · exact .inl h
      · exact (r.blk b).2 (.inr h)
    have ub : ∀ b, OB H' c b → OB H c b ∨ H.n ≤ b := fun b hb => by
      rcases ob3 b hb with h | h | h
      · exact (up1.mb b h).imp (fun h => (r.blk b).2 (.inl h)) id
      · exact .inl ((r.blk b).2 (.inr h))
      · exact .inr (by omega)
    obtain ⟨v1, g1, _⟩ := md1
    have g1 : H1.f c = .cells [v1, .map m, .int .i64 (now : Int)] T.expire_Store true := g1
    obtain ⟨m2, E2, H2, ht, r2, u2⟩ := tidyX (v := .int .i64 0) ok r r3 ⟨frA, ub⟩
    refine ⟨m2, E2, H2, (d_expire_Store_Put _ _ _ _ H (r := (.int .i64 0, H')) ?_).trans (congrArg some ht), r2, u2⟩
    by_cases h5 : (0 : Int) < (N : Int)
    · have h6 : ¬ (N : Int) ≤ (now : Int) := fun h => h4 ⟨h5, h⟩
      simp (disch := first | with_reducible rfl | assumption | omega | rfl | (simp only [go_sem]; first | done | omega)) only [go_sem, ↓reduceIte, reduceCtorEq, Nat.reduceEqDiff, Nat.reduceAdd, Nat.reduceSub, Nat.reduceMul, Nat.reduceDiv, Nat.reduceMod, Nat.reduceLeDiff, Nat.reduceLT, Nat.reduceBEq, Int.reduceEq, Int.reduceBEq, Int.reduceBNe, Int.reduceLT, Int.reduceLE, Int.reduceAdd, Int.reduceSub, Int.reduceNeg, Int.reduceToNat, Int.reducePow, Nat.reducePow, Int.reduceMul, Int.reduceDiv, ↓s_expire_Store_Put, h2, h3, ↓enterK_eq e1, enterK_eq e1, h5, h6, f0, ↓enterK_eq e2, enterK_eq e2, ↓enterK_eq e3, enterK_eq e3]
    · simp (disch := first | with_reducible rfl | assumption | omega | rfl | (simp only [go_sem]; first | done | omega)) only [go_sem, ↓reduceIte, reduceCtorEq, Nat.reduceEqDiff, Nat.reduceAdd, Nat.reduceSub, Nat.reduceMul, Nat.reduceDiv, Nat.reduceMod, Nat.reduceLeDiff, Nat.reduceLT, Nat.reduceBEq, Int.reduceEq, Int.reduceBEq, Int.reduceBNe, Int.reduceLT, Int.reduceLE, Int.reduceAdd, Int.reduceSub, Int.reduceNeg, Int.reduceToNat, Int.reducePow, Nat.reducePow, Int.reduceMul, Int.reduceDiv, ↓s_expire_Store_Put, h2, h3, ↓enterK_eq e1, enterK_eq e1, h5, f0, ↓enterK_eq e2, enterK_eq e2, ↓enterK_eq e3, enterK_eq e3]
  · rw [if_pos hc]
    refine ⟨m, E, H, ?_, r, UpX.refl H c⟩
    generalize chk k [v] = x at e1 hc ⊢
    apply pure_of _ (d_expire_Store_Put _ _ _ _ H) rfl
    rotate_left 2
    · simp (disch := first | with_reducible rfl | assumption | omega | rfl | (simp only [go_sem]; first | done | omega)) only [go_sem, ↓reduceIte, reduceCtorEq, Nat.reduceEqDiff, Nat.reduceAdd, Nat.reduceSub, Nat.reduceMul, Nat.reduceDiv, Nat.reduceMod, Nat.reduceLeDiff, Nat.reduceLT, Nat.reduceBEq, Int.reduceEq, Int.reduceBEq, Int.reduceBNe, Int.reduceLT, Int.reduceLE, Int.reduceAdd, Int.reduceSub, Int.reduceNeg, Int.reduceToNat, Int.reducePow, Nat.reducePow, Int.reduceMul, Int.reduceDiv, ↓s_expire_Store_Put, h2, h3, ↓enterK_eq e1, enterK_eq e1, hc]
      rfl
    · (repeat (first | exact Fr.refl _ | refine Fr.push ?_ _ | refine Fr.set ?_ _ _ (by intro h; first | omega | (simp only [go_sem] at h; omega))))
end

end Go.Proofs.Ythjjkinpbpealaa

/-
  Chapter 45: a store: Extend, Delete, Pass.
  Conditions: none. By an AI agent.
-/
set_option maxRecDepth 10000
set_option linter.unusedSimpArgs false
set_option linter.unusedVariables false
namespace Go.Proofs.Ythjjkinpbpealaa
open Go Eng
attribute [local congr] bareK_congr' bothK_congr' quietK_congr'

section
variable {H : AHeap} {c : Nat} {m : Option Nat} {E : Ec} {S : List En} {now : Nat}

theorem getX_ok {k : ByteArray} (h : (getX S now k).2.2 = 0) : chk k [] = 0 ∧ endB S now k = false ∧ ∃ x, getS S k = some x ∧ getX S now k = (x.val, x.e, 0) := by
  unfold getX at h ⊢
  by_cases hc : chk k [] = 0
  · rw [if_neg (fun e => e hc)] at h ⊢
    cases hg : getS S k with
    | none => rw [hg] at h; cases h
    | some x =>
      rw [hg] at h
      cases hb : endB S now k with
      | true => rw [hb] at h; cases h
      | false => exact ⟨hc, rfl, x, rfl, rfl⟩
  · rw [if_pos hc] at h
    exact absurd h hc
theorem getX_err {k : ByteArray} (h : (getX S now k).2.2 ≠ 0) (hc : chk k [] = 0) : (getX S now k).2.2 = 9 := by
  unfold getX at h ⊢
  rw [if_neg (fun e => e hc)] at h ⊢
  cases hg : getS S k with
  | none => rfl
  | some x =>
    rw [hg] at h
    cases hb : endB S now k with
    | true => rfl
    | false => rw [hb] at h; exact absurd rfl h

theorem q_xExtend (ok : Ok H) (r : StR H c m E S now) (k : ByteArray) (n : Int) :
    ∃ m' E' H', CC F.expire_Store_Extend [pt c, .string k, .int .i64 n] H = some (.int .i64 (extX S now k n).1, H') ∧ StR H' c m' E' (extX S now k n).2 now ∧ UpX H c H' := by
  have e1 := q_xcheck k (mk []) H ok
  rw [chk_e] at e1
  have e2 := q_xGet ok r k
  obtain ⟨v0, f0, _⟩ := r.md
  have f0 : H.f c = .cells [v0, .map m, .int .i64 (now : Int)] T.expire_Store true := f0
  unfold extX
  by_cases h1 : n < 0 ∨ 1099511627776 < n
  · rw [if_pos h1]
    refine ⟨m, E, H, ?_, r, UpX.refl H c⟩
    by_cases h2 : n < 0
    · apply pure_of _ (d_expire_Store_Extend _ _ _ H) rfl
      rotate_left 2
      · simp (disch := first | with_reducible rfl | assumption | omega | rfl | (simp only [go_sem]; first | done | omega)) only [go_sem, ↓reduceIte, reduceCtorEq, Nat.reduceEqDiff, Nat.reduceAdd, Nat.reduceSub, Nat.reduceMul, Nat.reduceDiv, Nat.reduceMod, Nat.reduceLeDiff, Nat.reduceLT, Nat.reduceBEq, Int.reduceEq, Int.reduceBEq, Int.reduceBNe, Int.reduceLT, Int.reduceLE, Int.reduceAdd, Int.reduceSub, Int.reduceNeg, Int.reduceToNat, Int.reducePow, Nat.reducePow, Int.reduceMul, Int.reduceDiv, ↓s_expire_Store_Extend, h2]
        rfl
      · (repeat (first | exact Fr.refl _ | refine Fr.push ?_ _ | refine Fr.set ?_ _ _ (by intro h; first | omega | (simp only [go_sem] at h; omega))))
    · have h3 : 1099511627776 < n := h1.resolve_left h2
      apply pure_of _ (d_expire_Store_Extend _ _ _ H) rfl
      rotate_left 2
      · simp (disch := first | with_reducible rfl | assumption | omega | rfl | (simp only [go_sem]; first | done | omega)) only [go_sem, ↓reduceIte, reduceCtorEq, Nat.reduceEqDiff, Nat.reduceAdd, Nat.reduceSub, Nat.reduceMul, Nat.reduceDiv, Nat.reduceMod, Nat.reduceLeDiff, Nat.reduceLT, Nat.reduceBEq, Int.reduceEq, Int.reduceBEq, Int.reduceBNe, Int.reduceLT, Int.reduceLE, Int.reduceAdd, Int.reduceSub, Int.reduceNeg, Int.reduceToNat, Int.reducePow, Nat.reducePow, Int.reduceMul, Int.reduceDiv, ↓s_expire_Store_Extend, h2, h3]
        rfl
      · (repeat (first | exact Fr.refl _ | refine Fr.push ?_ _ | refine Fr.set ?_ _ _ (by intro h; first | omega | (simp only [go_sem] at h; omega))))
  rw [if_neg h1]
  have h2 : ¬ n < 0 := fun h => h1 (.inl h)
  have h3 : ¬ 1099511627776 < n := fun h => h1 (.inr h)
  by_cases hc : chk k [] = 0
  · rw [if_neg (fun h => h hc)]
    rw [hc] at e1
    obtain ⟨N, rfl⟩ : ∃ N : Nat, n = (N : Int) := ⟨n.toNat, by omega⟩
    rw [Int.toNat_natCast]
    by_cases h4 : (0 : Int) < (N : Int) ∧ (N : Int) ≤ (now : Int)
    · rw [if_pos h4]
      obtain ⟨h5, h6⟩ := h4
      refine ⟨m, E, H, ?_, r, UpX.refl H c⟩
      apply pure_of _ (d_expire_Store_Extend _ _ _ H) rfl
      rotate_left 2
      · simp (disch := first | with_reducible rfl | assumption | omega | rfl | (simp only [go_sem]; first | done | omega)) only [go_sem, ↓reduceIte, reduceCtorEq, Nat.reduceEqDiff, Nat.reduceAdd, Nat.reduceSub, Nat.reduceMul, Nat.reduceDiv, Nat.reduceMod, Nat.reduceLeDiff, Nat.reduceLT, Nat.reduceBEq, Int.reduceEq, Int.reduceBEq, Int.reduceBNe, Int.reduceLT, Int.reduceLE, Int.reduceAdd, Int.reduceSub, Int.reduceNeg, Int.reduceToNat, Int.reducePow, Nat.reducePow, Int.reduceMul, Int.reduceDiv, ↓s_expire_Store_Extend, h2, h3, ↓enterK_eq e1, enterK_eq e1, h5, h6, f0]
        rfl
      · (repeat (first | exact Fr.refl _ | refine Fr.push ?_ _ | refine Fr.set ?_ _ _ (by intro h; first | omega | (simp only [go_sem] at h; omega))))
    rw [if_neg h4]
    have hno : (getX S now k).2.2 ≠ 0 → ∃ m' E' H', CC F.expire_Store_Extend [pt c, .string k, .int .i64 (N : Int)] H = some (.int .i64 9, H') ∧ StR H' c m' E' S now ∧ UpX H c H' := fun hg => by
      have h9 := getX_err hg hc
      rw [h9] at e2
      refine ⟨m, E, H, ?_, r, UpX.refl H c⟩
      by_cases h5 : (0 : Int) < (N : Int)
      · have h6 : ¬ (N : Int) ≤ (now : Int) := fun h => h4 ⟨h5, h⟩
        apply pure_of _ (d_expire_Store_Extend _ _ _ H) rfl
        rotate_left 2
        · simp (disch := first | with_reducible rfl | assumption | omega | rfl | (simp only [go_sem]; first | done | omega)) only [go_sem, ↓reduceIte, reduceCtorEq, Nat.reduceEqDiff, Nat.reduceAdd, Nat.reduceSub, Nat.reduceMul, Nat.reduceDiv, Nat.reduceMod, Nat.reduceLeDiff, Nat.reduceLT, Nat.reduceBEq, Int.reduceEq, Int.reduceBEq, Int.reduceBNe, Int.reduceLT, Int.reduceLE, Int.reduceAdd, Int.reduceSub, Int.reduceNeg, Int.reduceToNat, Int.reducePow, Nat.reducePow, Int.reduceMul, Int.reduceDiv, ↓s_expire_Store_Extend, h2, h3, ↓enterK_eq e1, enterK_eq e1, h5, h6, f0, ↓enterK_eq e2, enterK_eq e2]
          rfl
        · (repeat (first | exact Fr.refl _ | refine Fr.push ?_ _ | refine Fr.set ?_ _ _ (by intro h; first | omega | (simp only [go_sem] at h; omega))))
      · apply pure_of _ (d_expire_Store_Extend _ _ _ H) rfl
        rotate_left 2
        · simp (disch := first | with_reducible rfl | assumption | omega | rfl | (simp only [go_sem]; first | done | omega)) only [go_sem, ↓reduceIte, reduceCtorEq, Nat.reduceEqDiff, Nat.reduceAdd, Nat.reduceSub, Nat.reduceMul, Nat.reduceDiv, Nat.reduceMod, Nat.reduceLeDiff, Nat.reduceLT, Nat.reduceBEq, Int.reduceEq, Int.reduceBEq, Int.reduceBNe, Int.reduceLT, Int.reduceLE, Int.reduceAdd, Int.reduceSub, Int.reduceNeg, Int.reduceToNat, Int.reducePow, Nat.reducePow, Int.reduceMul, Int.reduceDiv, ↓s_expire_Store_Extend, h2, h3, ↓enterK_eq e1, enterK_eq e1, h5, f0, ↓enterK_eq e2, enterK_eq e2]
          rfl
        · (repeat (first | exact Fr.refl _ | refine Fr.push ?_ _ | refine Fr.set ?_ _ _ (by intro h; first | omega | (simp only [go_sem] at h; omega))))
    by_cases hb : endB S now k = true
    · rw [if_pos hb]
      exact hno (fun h => by have := (getX_ok h).2.1; rw [hb] at this; cases this)
    rw [if_neg hb]
    cases hg : getS S k with
    | none =>
      exact hno fun h => by
        obtain ⟨_, _, x, h1, _⟩ := getX_ok h
        rw [hg] at h1
        cases h1
    | some x =>
      have hz : (getX S now k).2.2 = 0 := by
        unfold getX
        rw [if_neg (fun e => e hc), hg]
        show (if endB S now k = true then ((mk [], 0, 9) : ByteArray × Nat × Int) else (x.val, x.e, 0)).2.2 = 0
        rw [if_neg hb]
      obtain ⟨_, _, x', g1, g2⟩ := getX_ok hz
      rw [hg] at g1
      cases g1
      rw [g2] at e2
      have e2 : CC F.expire_Store_Get [pt c, .string k] H = some (.tuple #[.string x.val, .int .i64 (x.e : Int), .int .i64 0], H) := e2
      have hs := ins_same r.srt (k := k) (x := x) N hg
      have hxk := getS_key hg
      obtain ⟨m', H', e3, r3, fr3, ob3⟩ := q_setS (now := now) (m := m) (E := E) (S' := insR S ⟨k, x.val, N⟩) k N ok (by rw [hs]; exact r.md) r.mi r.sp r.nd (fun j => by
          rw [lkp_set, ins_end r.srt, r.lk]
          show _ = if (if k = j then N else endOf S j) = 0 then none else some (if k = j then N else endOf S j)
          by_cases hj : k = j
          · rw [if_pos hj, if_pos hj]
          · rw [if_neg hj, if_neg hj]) (by rw [hs]; exact r.srt) (by rw [ins_len_has r.srt (by show (getS S k).isSome = true; rw [hg]; rfl)]; exact r.len)
        (fun z hz => by
          rcases ins_mem hz with rfl | hz
          · show N ≤ _; omega
          · exact r.ends z hz) r.nw
        (fun z hz => by
          rcases ins_mem hz with rfl | hz
          · exact hc
          · exact r.keys z hz)
      have u : UpX H c H' := ⟨fr3.mono fun b _ h => by
          rcases h with h | h
          · exact .inl h
          · exact (r.blk b).2 (.inr h), fun b hb => by
          rcases ob3 b hb with h | h | h
          · exact .inl ((r.blk b).2 (.inl h))
          · exact .inl ((r.blk b).2 (.inr h))
          · exact .inr h⟩
      obtain ⟨m2, E2, H2, ht, r2, u2⟩ := tidyX (v := .int .i64 0) ok r r3 u
      refine ⟨m2, E2, H2, (d_expire_Store_Extend _ _ _ H (r := (.int .i64 0, H')) ?_).trans (congrArg some ht), r2, u2⟩
      by_cases h5 : (0 : Int) < (N : Int)
      · have h6 : ¬ (N : Int) ≤ (now : Int) := fun h => h4 ⟨h5, h⟩
        simp (disch := first | with_reducible rfl | assumption | omega | rfl | (simp only [go_sem]; first | done | omega)) only [go_sem, ↓reduceIte, reduceCtorEq, Nat.reduceEqDiff, Nat.reduceAdd, Nat.reduceSub, Nat.reduceMul, Nat.reduceDiv, Nat.reduceMod, Nat.reduceLeDiff, Nat.reduceLT, Nat.reduceBEq, Int.reduceEq, Int.reduceBEq, Int.reduceBNe, Int.reduceLT, Int.reduceLE, Int.reduceAdd, Int.reduceSub, Int.reduceNeg, Int.reduceToNat, Int.reducePow, Nat.reducePow, Int.reduceMul, Int.reduceDiv, ↓s_expire_Store_Extend, h2, h3, ↓enterK_eq e1, enterK_eq e1, h5, h6, f0, ↓enterK_eq e2, enterK_eq e2, ↓enterK_eq e3, enterK_eq e3]
      · simp (disch := first | with_reducible rfl | assumption | omega | rfl | (simp only [go_sem]; first | done | omega)) only [go_sem, ↓reduceIte, reduceCtorEq, Nat.reduceEqDiff, Nat.reduceAdd, Nat.reduceSub, Nat.reduceMul, Nat.reduceDiv, Nat.reduceMod, Nat.reduceLeDiff, Nat.reduceLT, Nat.reduceBEq, Int.reduceEq, Int.reduceBEq, Int.reduceBNe, Int.reduceLT, Int.reduceLE, Int.reduceAdd, Int.reduceSub, Int.reduceNeg, Int.reduceToNat, Int.reducePow, Nat.reducePow, Int.reduceMul, Int.reduceDiv, ↓s_expire_Store_Extend, h2, h3, ↓enterK_eq e1, enterK_eq e1, h5, f0, ↓enterK_eq e2, enterK_eq e2, ↓enterK_eq e3, enterK_eq e3]
  · rw [if_pos hc]
    refine ⟨m, E, H, ?_, r, UpX.refl H c⟩
    generalize chk k [] = x at e1 hc ⊢
    apply pure_of _ (d_expire_Store_Extend _ _ _ H) rfl
    rotate_left 2
    · simp (disch := first | with_reducible rfl | assumption | omega | rfl | (simp only [go_sem]; first | done | omega)) only [go_sem, ↓reduceIte, reduceCtorEq, Nat.reduceEqDiff, Nat.reduceAdd, Nat.reduceSub, Nat.reduceMul, Nat.reduceDiv, Nat.reduceMod, Nat.reduceLeDiff, Nat.reduceLT, Nat.reduceBEq, Int.reduceEq, Int.reduceBEq, Int.reduceBNe, Int.reduceLT, Int.reduceLE, Int.reduceAdd, Int.reduceSub, Int.reduceNeg, Int.reduceToNat, Int.reducePow, Nat.reducePow, Int.reduceMul, Int.reduceDiv, ↓s_expire_Store_Extend, h2, h3, ↓enterK_eq e1, enterK_eq e1, hc]
      rfl
    · (repeat (first | exact Fr.refl _ | refine Fr.push ?_ _ | refine Fr.set ?_ _ _ (by intro h; first | omega | (simp only [go_sem] at h; omega))))

/-- A key is taken out of the map, and then out of the ends. -/
theorem q_takeOut (ok : Ok H) (r : StR H c m E S now) (k : ByteArray) (hc : chk k [] = 0) :
    ∃ w H1 v1 H2, CC F.model_Model_Delete [pt c, .string k] H = some (w, H1) ∧ H1.f c = .cells [v1, .map m, .int .i64 (now : Int)] T.expire_Store true ∧ xbuiltin Try.prog .delete [T.map_string_int, T.string] [.map m, .string k] H1 = some (.val (.tuple #[]) H2) ∧
      StR H2 c m (Eng.delE E k) (delR S k) now ∧ UpX H c H2 := by
  have hlen := r.len
  obtain ⟨H1, e1, md1, up1⟩ := q_delM c (pl S) k H ok r.md r.srt (by simpa [pl] using hlen)
  have hd : delE (pl S) k = pl (delR S k) := by
    unfold delE
    rw [if_pos hc]
    exact del_pos r.srt k
  rw [hd] at md1
  have n1 := up1.fr.n
  have mi1 := r.mi.keep up1.fr fun mb e h => r.sp mb e h
  have sp1 : ∀ mb, m = some mb → ¬ MBT (stT m now) H1 c mb := fun mb e h => by
    rcases up1.mb mb h with h | h
    · exact r.sp mb e h
    · have := r.mi.lt mb e; omega
  obtain ⟨v1, f1, g2, g3, g4⟩ := md1
  have f1 : H1.f c = .cells [v1, .map m, .int .i64 (now : Int)] T.expire_Store true := f1
  have lk2 : ∀ j, lkp (Eng.delE E k) j = if endOf (delR S k) j = 0 then none else some (endOf (delR S k) j) := fun j => by
    rw [lkp_del, del_end r.srt, r.lk]
    by_cases hj : k = j
    · rw [if_pos hj, if_pos hj, if_pos rfl]
    · rw [if_neg hj, if_neg hj]
  have tail : ∀ H2 : AHeap, Fr (fun b => m = some b) H1 H2 → H2.f c = H1.f c → MapIs H2 c m (Eng.delE E k) → StR H2 c m (Eng.delE E k) (delR S k) now ∧ UpX H c H2 := fun H2 fr2 f2 mi2 => by
    have md2 : MdlT (stT m now) H2 c (pl (delR S k)) := ⟨v1, by rw [f2]; exact f1, by have := fr2.n; omega, g3.keep fr2 fun b hb h => sp1 b h (.inr ⟨v1, f1, hb⟩), g4⟩
    have r2 : StR H2 c m (Eng.delE E k) (delR S k) now := ⟨md2, mi2, fun mb e h => sp1 mb e (h.imp id fun ⟨u, hu, hb⟩ => ⟨u, by rw [← f2]; exact hu, hb⟩), keys_del_nodup r.nd k, lk2, del_srt r.srt k, by have := del_len_le S k; omega, fun x hx => r.ends x (del_mem hx), r.nw, fun x hx => r.keys x (del_mem hx)⟩
    refine ⟨r2, (up1.fr.mono fun b _ h => (r.blk b).2 (.inl h)).then fr2 fun b hb h => (r.blk b).2 (.inr h), fun b hb => ?_⟩
    rcases (r2.blk b).1 hb with h | h
    · have h : MBT (stT m now) H1 c b := h.imp id fun ⟨u, hu, hbb⟩ => ⟨u, by rw [← f2]; exact hu, hbb⟩
      exact (up1.mb b h).imp (fun h => (r.blk b).2 (.inl h)) id
    · exact .inl ((r.blk b).2 (.inr h))
  cases hm : m with
  | none =>
    subst hm
    have hE : E = [] := r.mi
    have l1 : xbuiltin Try.prog .delete [T.map_string_int, T.string] [.map none, .string k] H1 = some (.val (.tuple #[]) H1) := by
      show both (xdelete Try.prog [T.map_string_int, T.string] (.map none) (.string k) H1) = _
      have l1 : xdelete Try.prog [T.map_string_int, T.string] (.map none) (.string k) H1 = some (.tuple #[], H1) := del_nil mt k [T.string]
      rw [l1]
      rfl
    obtain ⟨a1, a2⟩ := tail H1 (Fr.refl H1) rfl (by subst hE; exact rfl)
    exact ⟨_, H1, v1, H1, e1, f1, l1, a1, a2⟩
  | some mb =>
    subst hm
    obtain ⟨b1, b2, b3⟩ := mi1
    have l1 := del_map mt b1 (ent_of E) k [T.string]
    have p1 : mdel (entsOf E) (kStr.kv k) = entsOf (Eng.delE E k) := of_ent ((ent_of E).del (R := RC) (k := k))
    rw [p1] at l1
    obtain ⟨H2, hH2⟩ : ∃ H2, H1.set mb (.map (entsOf (Eng.delE E k))) = H2 := ⟨_, rfl⟩
    rw [hH2] at l1
    have l1 : xbuiltin Try.prog .delete [T.map_string_int, T.string] [.map (some mb), .string k] H1 = some (.val (.tuple #[]) H2) := by
      show both (xdelete Try.prog [T.map_string_int, T.string] (.map (some mb)) (.string k) H1) = _
      have l1 : xdelete Try.prog [T.map_string_int, T.string] (.map (some mb)) (.string k) H1 = some (.tuple #[], H2) := l1
      rw [l1]
      rfl
    obtain ⟨a1, a2⟩ := tail H2 (by rw [← hH2]; exact (Fr.refl H1).set _ _ fun _ => rfl) (by rw [← hH2, set_f_ne (fun h => b3 h.symm)]) ⟨by rw [← hH2]; exact set_f_eq, by rw [← hH2]; exact b2, b3⟩
    exact ⟨_, H1, v1, H2, e1, f1, l1, a1, a2⟩

theorem q_xDelete (ok : Ok H) (r : StR H c m E S now) (k : ByteArray) :
    ∃ m' E' H', CC F.expire_Store_Delete [pt c, .string k] H = some (.int .i64 (delX S now k).1, H') ∧ StR H' c m' E' (delX S now k).2 now ∧ UpX H c H' := by
  have e2 := q_xGet ok r k
  unfold delX
  by_cases hz : (getX S now k).2.2 = 0
  · rw [if_neg (fun h => h hz)]
    obtain ⟨hc, _, x, g1, g2⟩ := getX_ok hz
    rw [g2] at e2
    have e2 : CC F.expire_Store_Get [pt c, .string k] H = some (.tuple #[.string x.val, .int .i64 (x.e : Int), .int .i64 0], H) := e2
    obtain ⟨w, H1, v1, H2, e3, f1, l1, r2, u⟩ := q_takeOut ok r k hc
    obtain ⟨m2, E2, H3, ht, r3, u3⟩ := tidyX (v := .int .i64 0) ok r r2 u
    refine ⟨m2, E2, H3, (d_expire_Store_Delete _ _ H (r := (.int .i64 0, H2)) ?_).trans (congrArg some ht), r3, u3⟩
    simp (disch := first | with_reducible rfl | assumption | omega | rfl | (simp only [go_sem]; first | done | omega)) only [go_sem, ↓reduceIte, reduceCtorEq, Nat.reduceEqDiff, Nat.reduceAdd, Nat.reduceSub, Nat.reduceMul, Nat.reduceDiv, Nat.reduceMod, Nat.reduceLeDiff, Nat.reduceLT, Nat.reduceBEq, Int.reduceEq, Int.reduceBEq, Int.reduceBNe, Int.reduceLT, Int.reduceLE, Int.reduceAdd, Int.reduceSub, Int.reduceNeg, Int.reduceToNat, Int.reducePow, Nat.reducePow, Int.reduceMul, Int.reduceDiv, ↓s_expire_Store_Delete, ↓enterK_eq e2, enterK_eq e2, ↓enterK_eq e3, enterK_eq e3, f1, l1]
  · rw [if_pos hz]
    refine ⟨m, E, H, ?_, r, UpX.refl H c⟩
    generalize (getX S now k).2.2 = e at e2 hz ⊢
    apply pure_of _ (d_expire_Store_Delete _ _ H) rfl
    rotate_left 2
    · simp (disch := first | with_reducible rfl | assumption | omega | rfl | (simp only [go_sem]; first | done | omega)) only [go_sem, ↓reduceIte, reduceCtorEq, Nat.reduceEqDiff, Nat.reduceAdd, Nat.reduceSub, Nat.reduceMul, Nat.reduceDiv, Nat.reduceMod, Nat.reduceLeDiff, Nat.reduceLT, Nat.reduceBEq, Int.reduceEq, Int.reduceBEq, Int.reduceBNe, Int.reduceLT, Int.reduceLE, Int.reduceAdd, Int.reduceSub, Int.reduceNeg, Int.reduceToNat, Int.reducePow, Nat.reducePow, Int.reduceMul, Int.reduceDiv, ↓s_expire_Store_Delete, ↓enterK_eq e2, enterK_eq e2, hz]
      rfl
    · (repeat (first | exact Fr.refl _ | refine Fr.push ?_ _ | refine Fr.set ?_ _ _ (by intro h; first | omega | (simp only [go_sem] at h; omega))))

theorem q_xPass (ok : Ok H) (r : StR H c m E S now) (n : Int) :
    ∃ m' E' H', CC F.expire_Store_Pass [pt c, .int .i64 n] H = some (.int .i64 (passX now n).1, H') ∧ StR H' c m' E' S (passX now n).2 ∧ UpX H c H' := by
  obtain ⟨v0, f0, g2, g3, g4⟩ := r.md
  have f0 : H.f c = .cells [v0, .map m, .int .i64 (now : Int)] T.expire_Store true := f0
  unfold passX
  by_cases h1 : n < 0 ∨ 1099511627776 < n
  · rw [if_pos h1]
    refine ⟨m, E, H, ?_, r, UpX.refl H c⟩
    by_cases h2 : n < 0
    · apply pure_of _ (d_expire_Store_Pass _ _ H) rfl
      rotate_left 2
      · simp (disch := first | with_reducible rfl | assumption | omega | rfl | (simp only [go_sem]; first | done | omega)) only [go_sem, ↓reduceIte, reduceCtorEq, Nat.reduceEqDiff, Nat.reduceAdd, Nat.reduceSub, Nat.reduceMul, Nat.reduceDiv, Nat.reduceMod, Nat.reduceLeDiff, Nat.reduceLT, Nat.reduceBEq, Int.reduceEq, Int.reduceBEq, Int.reduceBNe, Int.reduceLT, Int.reduceLE, Int.reduceAdd, Int.reduceSub, Int.reduceNeg, Int.reduceToNat, Int.reducePow, Nat.reducePow, Int.reduceMul, Int.reduceDiv, ↓s_expire_Store_Pass, h2]
        rfl
      · (repeat (first | exact Fr.refl _ | refine Fr.push ?_ _ | refine Fr.set ?_ _ _ (by intro h; first | omega | (simp only [go_sem] at h; omega))))
    · have h3 : 1099511627776 < n := h1.resolve_left h2
      apply pure_of _ (d_expire_Store_Pass _ _ H) rfl
      rotate_left 2
      · simp (disch := first | with_reducible rfl | assumption | omega | rfl | (simp only [go_sem]; first | done | omega)) only [go_sem, ↓reduceIte, reduceCtorEq, Nat.reduceEqDiff, Nat.reduceAdd, Nat.reduceSub, Nat.reduceMul, Nat.reduceDiv, Nat.reduceMod, Nat.reduceLeDiff, Nat.reduceLT, Nat.reduceBEq, Int.reduceEq, Int.reduceBEq, Int.reduceBNe, Int.reduceLT, Int.reduceLE, Int.reduceAdd, Int.reduceSub, Int.reduceNeg, Int.reduceToNat, Int.reducePow, Nat.reducePow, Int.reduceMul, Int.reduceDiv, ↓s_expire_Store_Pass, h2, h3]
        rfl
      · (repeat (first | exact Fr.refl _ | refine Fr.push ?_ _ | refine Fr.set ?_ _ _ (by intro h; first | omega | (simp only [go_sem] at h; omega))))
  rw [if_neg h1]
  have h2 : ¬ n < 0 := fun h => h1 (.inl h)
  have h3 : ¬ 1099511627776 < n := fun h => h1 (.inr h)
  by_cases h4 : n < (now : Int)
  · rw [if_pos h4]
    refine ⟨m, E, H, ?_, r, UpX.refl H c⟩
    apply pure_of _ (d_expire_Store_Pass _ _ H) rfl
    rotate_left 2
    · simp (disch := first | with_reducible rfl | assumption | omega | rfl | (simp only [go_sem]; first | done | omega)) only [go_sem, ↓reduceIte, reduceCtorEq, Nat.reduceEqDiff, Nat.reduceAdd, Nat.reduceSub, Nat.reduceMul, Nat.reduceDiv, Nat.reduceMod, Nat.reduceLeDiff, Nat.reduceLT, Nat.reduceBEq, Int.reduceEq, Int.reduceBEq, Int.reduceBNe, Int.reduceLT, Int.reduceLE, Int.reduceAdd, Int.reduceSub, Int.reduceNeg, Int.reduceToNat, Int.reducePow, Nat.reducePow, Int.reduceMul, Int.reduceDiv, ↓s_expire_Store_Pass, h2, h3, f0, h4]
      rfl
    · (repeat (first | exact Fr.refl _ | refine Fr.push ?_ _ | refine Fr.set ?_ _ _ (by intro h; first | omega | (simp only [go_sem] at h; omega))))
  rw [if_neg h4]
  obtain ⟨N, rfl⟩ : ∃ N : Nat, n = (N : Int) := ⟨n.toNat, by omega⟩
  rw [Int.toNat_natCast]
  obtain ⟨H1, hH1⟩ : ∃ H1, H.set c (.cells [v0, .map m, .int .i64 (N : Int)] T.expire_Store true) = H1 := ⟨_, rfl⟩
  have f1 : H1.f c = .cells [v0, .map m, .int .i64 (N : Int)] T.expire_Store true := by rw [← hH1]; exact set_f_eq
  have fr : Fr (fun b => b = c) H H1 := by rw [← hH1]; exact (Fr.refl H).set _ _ fun _ => rfl
  have hobs : ∀ b, OB H1 c b ↔ OB H c b := fun b => by
    unfold OB
    rw [f0, f1]
    constructor
    · rintro (h | ⟨v, m', n', e, h⟩)
      · exact .inl h
      · cases e; exact .inr ⟨v0, m, (now : Int), rfl, h⟩
    · rintro (h | ⟨v, m', n', e, h⟩)
      · exact .inl h
      · cases e; exact .inr ⟨v0, m, (N : Int), rfl, h⟩
  have r1 : StR H1 c m E S N := by
    refine ⟨⟨v0, f1, by rw [← hH1]; exact g2, g3.keep fr fun b hb h => g4 (by rw [← h]; exact hb), g4⟩, r.mi.keep fr fun mb e h => r.mi.ne mb e h, fun mb e h => ?_, r.nd, r.lk, r.srt, r.len, r.ends, by omega, r.keys⟩
    rcases h with h | ⟨u, hu, hb⟩
    · exact r.mi.ne mb e h
    · have hu : H1.f c = .cells [u, .map m, .int .i64 (N : Int)] T.expire_Store true := hu
      rw [f1] at hu
      cases hu
      exact r.sp mb e (.inr ⟨v0, f0, hb⟩)
  have u : UpX H c H1 := ⟨fr.mono fun b _ h => .inl h, fun b hb => .inl ((hobs b).1 hb)⟩
  obtain ⟨m2, E2, H3, ht, r3, u3⟩ := tidyX (v := .int .i64 0) ok r r1 u
  refine ⟨m2, E2, H3, (d_expire_Store_Pass _ _ H (r := (.int .i64 0, H1)) ?_).trans (congrArg some ht), r3, u3⟩
  simp (disch := first | with_reducible rfl | assumption | omega | rfl | (simp only [go_sem]; first | done | omega)) only [go_sem, ↓reduceIte, reduceCtorEq, Nat.reduceEqDiff, Nat.reduceAdd, Nat.reduceSub, Nat.reduceMul, Nat.reduceDiv, Nat.reduceMod, Nat.reduceLeDiff, Nat.reduceLT, Nat.reduceBEq, Int.reduceEq, Int.reduceBEq, Int.reduceBNe, Int.reduceLT, Int.reduceLE, Int.reduceAdd, Int.reduceSub, Int.reduceNeg, Int.reduceToNat, Int.reducePow, Nat.reducePow, Int.reduceMul, Int.reduceDiv, ↓s_expire_Store_Pass, h2, h3, f0, h4, hH1]
end

end Go.Proofs.Ythjjkinpbpealaa
