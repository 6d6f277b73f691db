/-
  4 texts in one (merge.py): ShBackupLongs DsBackupLongs Yc LawBackupLongs.
  Conditions: none. By an AI agent.
-/
import Derived.Test.YtehnchfnhbmkdaaQc1
import Derived.Test.YtehnchfnhbmkdaaChecked
import Derived.KernelRfl
import Derived.Test.YtehnchfnhbmkdaaRows
import Derived.WalkKit
import Derived.ProofKit
import Derived.OpenShut
import Derived.ShutString
import Derived.ChangeOld
import Derived.Below
import Derived.SizedLaws
import Derived.ChangeArms
import Derived.Carry

/-
  The seat's functions as terms over the engine's combinators (a program of ours printed it).
  Conditions: none. By an AI agent.
-/
set_option linter.unusedVariables false
namespace Go.Proofs.Ytehnchfnhbmkdaa
open Go Eng

/-! ticketline.ticketlinelaw48.BackupLongs -/

noncomputable def s_law_BackupLongs (mg : GT) (mc : CT) (ms : ST) (P : Program) (C : CallF) (a0 : Value) (a1 : Value) (H : AHeap) (K0 : K) : Res :=
bareK (xbin P .lss T.int (.tmp 10) (.const (.int .i64 (-2))) a0 (.int .i64 (-2))) H fun t11 h1 =>
mg t11 false (fun o1 => o1 a0 h1) h1 fun t13 h2 =>
mg t11 false (fun o2 => bareK (xbin P .gtr T.int (.tmp 13) (.const (.int .i64 2)) t13 (.int .i64 2)) h2 o2) h2 fun t14 h3 =>
pickK t11 (.bool true) t14 fun t15 =>
mg t15 false (fun o3 => o3 a1 h3) h3 fun t17 h4 =>
mg t15 false (fun o4 => bareK (xbin P .lss T.int (.tmp 17) (.const (.int .i64 65533)) t17 (.int .i64 65533)) h4 o4) h4 fun t18 h5 =>
pickK t15 (.bool true) t18 fun t19 =>
mg t19 false (fun o5 => o5 a1 h5) h5 fun t21 h6 =>
mg t19 false (fun o6 => bareK (xbin P .gtr T.int (.tmp 21) (.const (.int .i64 65537)) t21 (.int .i64 65537)) h6 o6) h6 fun t22 h7 =>
pickK t19 (.bool true) t22 fun t23 =>
mc t23 (fun k7 => enterK C F.law_known [] h7 fun t24 h8 =>
k7 .ret [(4, t24)] h8) (fun k7 =>
k7 .normal [(0, a0), (1, a1)] h7) (seqK (fun tT h9 =>
bareK (xbin P .add T.int (.const (.int .i64 4194304)) (.tmp 25) (.int .i64 4194304) (get tT 0)) h9 fun t26 h10 =>
bothK (mkS T.uint8 [(.int .u8 0)] 1 t26 t26 h10) fun t27 h11 =>
enterK C F.backup_Cut [t27, (.int .i64 65536)] h11 fun t30 h12 =>
bareK (xextract t30 0) h12 fun t31 h13 =>
bareK (xextract t30 1) h13 fun t32 h14 =>
bareK (xbin P .gtr T.int (.tmp 33) (.const (.int .i64 0)) (get tT 0) (.int .i64 0)) h14 fun t34 h15 =>
mc t34 (fun k8 => bareK (lenS t31) h15 fun t36 h16 =>
bareK (xbin P .neq T.int (.tmp 36) (.const (.int .i64 0)) t36 (.int .i64 0)) h16 fun t37 h17 =>
mg t37 false (fun o9 => o9 t32 h17) h17 fun t39 h18 =>
mg t37 false (fun o10 => bareK (xbin P .neq T.api_Errno (.tmp 39) (.const (.int .i64 5)) t39 (.int .i64 5)) h18 o10) h18 fun t40 h19 =>
pickK t37 (.bool true) t40 fun t41 =>
mc t41 (fun k11 => k11 .ret [(4, (.bool false))] h19) (fun k11 =>
k11 .normal [(1, (get tT 1)), (5, t27), (8, (.int .i64 5))] h19) (afterK [1, 5, 8] k8)) (fun k8 =>
bareK (lenS t31) h15 fun t43 h20 =>
bareK (xbin P .neq T.int (.tmp 43) (.const (.int .i64 64)) t43 (.int .i64 64)) h20 fun t44 h21 =>
mg t44 false (fun o12 => o12 t32 h21) h21 fun t46 h22 =>
mg t44 false (fun o13 => bareK (xbin P .neq T.api_Errno (.tmp 46) (.const (.int .i64 0)) t46 (.int .i64 0)) h22 o13) h22 fun t47 h23 =>
pickK t44 (.bool true) t47 fun t48 =>
mg t48 false (fun o14 => o14 t31 h23) h23 fun t50 h24 =>
mg t48 false (fun o15 => bareK (ixS 1 t50 (.int .i64 63)) h24 o15) h24 fun t51 h25 =>
mg t48 false (fun o16 => bareK (ld1 h25 t51) h25 o16) h25 fun t52 h26 =>
mg t48 false (fun o17 => bareK (lenS t52) h26 o17) h26 fun t53 h27 =>
mg t48 false (fun o18 => o18 (get tT 0) h27) h27 fun t54 h28 =>
mg t48 false (fun o19 => bareK (xbin P .add T.int (.const (.int .i64 65544)) (.tmp 54) (.int .i64 65544) t54) h28 o19) h28 fun t55 h29 =>
mg t48 false (fun o20 => bareK (xbin P .neq T.int (.tmp 53) (.tmp 55) t53 t55) h29 o20) h29 fun t56 h30 =>
pickK t48 (.bool true) t56 fun t57 =>
mc t57 (fun k21 => k21 .ret [(4, (.bool false))] h30) (fun k21 =>
k21 .normal [(1, (get tT 1)), (5, t27), (8, (.int .i64 12))] h30) (afterK [1, 5, 8] k8)) (seqK (fun tT_1 h31 =>
enterK C F.law_decodes [(get tT_1 5), (.pointer none), (get tT_1 8)] h31 fun t60 h32 =>
bareK (xun P .not t60) h32 fun t61 h33 =>
mc t61 (fun k22 => k22 .ret [(4, (.bool false))] h33) (fun k22 =>
k22 .normal [(1, (get tT_1 1)), (5, (get tT_1 5))] h33) (seqK (fun tT_2 h34 =>
bareK (slS T.uint8 1 (get tT_2 5) none (some (get tT_2 1)) none h34) h34 fun t65 h35 =>
enterK C F.backup_Cut [t65, (.int .i64 1)] h35 fun t66 h36 =>
bareK (xextract t66 0) h36 fun t67 h37 =>
bareK (xextract t66 1) h37 fun t68 h38 =>
bareK (xbin P .gtr T.int (.tmp 69) (.const (.int .i64 65535)) (get tT_2 1) (.int .i64 65535)) h38 fun t70 h39 =>
mc t70 (fun k23 => bareK (lenS t67) h39 fun t72 h40 =>
bareK (xbin P .eql T.int (.tmp 72) (.const (.int .i64 0)) t72 (.int .i64 0)) h40 fun t73 h41 =>
mg t73 true (fun o24 => o24 t68 h41) h41 fun t75 h42 =>
mg t73 true (fun o25 => bareK (xbin P .eql T.api_Errno (.tmp 75) (.const (.int .i64 5)) t75 (.int .i64 5)) h42 o25) h42 fun t76 h43 =>
pickK t73 t76 (.bool false) fun t77 =>
mg t77 true (fun o26 => o26 (get tT_2 1) h43) h43 fun t79 h44 =>
mg t77 true (fun o27 => bothK (mkS T.sl_uint8 [(.slice none 0 0)] 24 t79 t79 h44) o27) h44 fun t80 h45 =>
mg t77 true (fun o28 => enterK C F.law_joins [t80, (.slice none 0 0), (.int .i64 5)] h45 o28) h45 fun t81 h46 =>
pickK t77 t81 (.bool false) fun t82 =>
mg t82 true (fun o29 => enterK C F.law_known [] h46 o29) h46 fun t84 h47 =>
pickK t82 t84 (.bool false) fun t85 =>
k23 .ret [(4, t85)] h47) (fun k23 =>
k23 .normal [(1, (get tT_2 1)), (5, (get tT_2 5)), (7, t68), (9, t67)] h39) (seqK (fun tT_3 h48 =>
bareK (lenS (get tT_3 9)) h48 fun t87 h49 =>
bareK (xbin P .eql T.int (.tmp 87) (.tmp 88) t87 (get tT_3 1)) h49 fun t89 h50 =>
mg t89 true (fun o30 => o30 (get tT_3 7) h50) h50 fun t91 h51 =>
mg t89 true (fun o31 => bareK (xbin P .eql T.api_Errno (.tmp 91) (.const (.int .i64 0)) t91 (.int .i64 0)) h51 o31) h51 fun t92 h52 =>
pickK t89 t92 (.bool false) fun t93 =>
mg t93 true (fun o32 => o32 (get tT_3 9) h52) h52 fun t95 h53 =>
mg t93 true (fun o33 => o33 (get tT_3 1) h53) h53 fun t96 h54 =>
mg t93 true (fun o34 => bareK (xbin P .sub T.int (.tmp 96) (.const (.int .i64 1)) t96 (.int .i64 1)) h54 o34) h54 fun t97 h55 =>
mg t93 true (fun o35 => bareK (ixS 1 t95 t97) h55 o35) h55 fun t98 h56 =>
mg t93 true (fun o36 => bareK (ld1 h56 t98) h56 o36) h56 fun t99 h57 =>
mg t93 true (fun o37 => bareK (lenS t99) h57 o37) h57 fun t100 h58 =>
mg t93 true (fun o38 => bareK (xbin P .eql T.int (.tmp 100) (.const (.int .i64 9)) t100 (.int .i64 9)) h58 o38) h58 fun t101 h59 =>
pickK t93 t101 (.bool false) fun t102 =>
mg t102 true (fun o39 => o39 (get tT_3 9) h59) h59 fun t104 h60 =>
mg t102 true (fun o40 => o40 (get tT_3 5) h60) h60 fun t105 h61 =>
mg t102 true (fun o41 => o41 (get tT_3 1) h61) h61 fun t106 h62 =>
mg t102 true (fun o42 => bareK (slS T.uint8 1 t105 none (some t106) none h62) h62 o42) h62 fun t107 h63 =>
mg t102 true (fun o43 => enterK C F.law_joins [t104, t107, (.int .i64 0)] h63 o43) h63 fun t108 h64 =>
pickK t102 t108 (.bool false) fun t109 =>
mg t109 true (fun o44 => enterK C F.law_known [] h64 o44) h64 fun t111 h65 =>
pickK t109 t111 (.bool false) fun t112 =>
K0 .ret [(4, t112)] h65) K0)) K0)) K0)) K0)

theorem s_law_BackupLongs_eq (M : CombL) (C : CallF) (LP : LoopH) (a0 : Value) (a1 : Value) (H : AHeap) : dBodyL M Try.prog hints C LP F.law_BackupLongs [a0, a1] H = s_law_BackupLongs M.b.g M.c M.s Try.prog C a0 a1 H (endK Try.prog [.tmp 4]) := by kernel_rfl

end Go.Proofs.Ytehnchfnhbmkdaa

/-
  The equations of the seat's functions over calls in the limit (a program of ours printed it).
  Conditions: none. By an AI agent.
-/
set_option linter.unusedVariables false
namespace Go.Proofs.Ytehnchfnhbmkdaa
open Go Eng



theorem d_law_BackupLongs (a0 : Value) (a1 : Value) (H : AHeap) {r : Value × AHeap} (h : s_law_BackupLongs guardK condL shareL Try.prog CC a0 a1 H (endK Try.prog [.tmp 4]) = some r) : CC F.law_BackupLongs [a0, a1] H = some (tidy H r) := D_body (by kernel_rfl) ((s_law_BackupLongs_eq stdL CC limLP a0 a1 H).trans (Eq.trans (show s_law_BackupLongs stdL.b.g stdL.c stdL.s Try.prog CC a0 a1 H (endK Try.prog [.tmp 4]) = s_law_BackupLongs guardK condL shareL Try.prog CC a0 a1 H (endK Try.prog [.tmp 4]) by kernel_rfl) h))

end Go.Proofs.Ytehnchfnhbmkdaa

/-
  Chapter 48: BackupLongs.
  Conditions: none. By an AI agent.
-/
set_option maxRecDepth 10000
set_option linter.unusedSimpArgs false
set_option linter.unusedVariables false
namespace Go.Proofs.Ytehnchfnhbmkdaa
open Go Eng

theorem zeros_cells : ∀ n : Nat, zeros [.int .u8 0] n = EB.cells (List.replicate n 0)
  | 0 => rfl
  | n + 1 => by rw [zeros, zeros_cells n, List.replicate_succ]; rfl

theorem numB_zero : ∀ n : Nat, numB (List.replicate n 0) = 0
  | 0 => rfl
  | n + 1 => by
    unfold numB
    rw [List.replicate_succ, List.foldl_cons]
    exact numB_zero n
theorem dec_zero {n : Nat} (h : 1 ≤ n) : decOf (List.replicate n 0) = none := by
  cases hd : decOf (List.replicate n (0 : UInt8)) with
  | none => rfl
  | some m =>
    obtain ⟨hw, e⟩ := decOf_iff.1 hd
    have e2 : (encB m)[0]? = (List.replicate n (0 : UInt8))[0]? := by rw [e]
    have e3 : (encB m)[0]? = some 84 := by simp [encB, fullB, headB]
    rw [e3, List.getElem?_replicate, if_pos (by omega)] at e2
    cases e2

theorem q_joins_long (v : Value) (ls : Nat) (H : AHeap) (hlen : lenS v = some (.int .i64 (ls : Int))) (hl : 65535 < ls) : CC F.law_joins [v, .slice none 0 0, .int .i64 5] H = some (.bool true, H) := by
  have h1 : 65535 < (ls : Int) := by omega
  have hj : CC F.backup_Join [v] H = some (.tuple #[.slice none 0 0, .int .i64 5], H) := by
    apply pure_of _ (d_backup_Join _ H) rfl
    rotate_left 2
    · simp (disch := first | with_reducible rfl | assumption | omega | rfl | (simp only [go_sem]; first | done | omega)) only [go_sem, ↓reduceIte, reduceCtorEq, Nat.reduceEqDiff, Nat.reduceAdd, Nat.reduceSub, Nat.reduceMul, Nat.reduceDiv, Nat.reduceMod, Nat.reduceLeDiff, Nat.reduceLT, Nat.reduceBEq, Int.reduceEq, Int.reduceBEq, Int.reduceBNe, Int.reduceLT, Int.reduceLE, Int.reduceAdd, Int.reduceSub, Int.reduceNeg, Int.reduceToNat, Int.reducePow, Nat.reducePow, Int.reduceMul, Int.reduceDiv, ↓s_backup_Join, hlen, h1]
      rfl
    · (repeat (first | exact Fr.refl _ | refine Fr.push ?_ _ | refine Fr.set ?_ _ _ (by intro h; first | omega | (simp only [go_sem] at h; omega))))
  have st := BR.str (H := H) (v := .slice none 0 0) (l := []) RdS.nil
  apply pure_of _ (d_law_joins _ _ _ H) rfl
  rotate_left 2
  · simp (disch := first | with_reducible rfl | assumption | omega | rfl | (simp only [go_sem]; first | done | omega)) only [go_sem, ↓reduceIte, reduceCtorEq, Nat.reduceEqDiff, Nat.reduceAdd, Nat.reduceSub, Nat.reduceMul, Nat.reduceDiv, Nat.reduceMod, Nat.reduceLeDiff, Nat.reduceLT, Nat.reduceBEq, Int.reduceEq, Int.reduceBEq, Int.reduceBNe, Int.reduceLT, Int.reduceLE, Int.reduceAdd, Int.reduceSub, Int.reduceNeg, Int.reduceToNat, Int.reducePow, Nat.reducePow, Int.reduceMul, Int.reduceDiv, ↓s_law_joins, enterK_eq hj, st]
    rfl
  · (repeat (first | exact Fr.refl _ | refine Fr.push ?_ _ | refine Fr.set ?_ _ _ (by intro h; first | omega | (simp only [go_sem] at h; omega))))

theorem nP_one (l : List UInt8) (h : 1 ≤ l.length) : nP l 1 = l.length := by unfold nP; simp; omega
theorem nP_64 {l : List UInt8} (h1 : 4194302 ≤ l.length) (h2 : l.length ≤ 4194304) : nP l 65536 = 64 := by
  unfold nP
  have : (l.length + 65536 - 1) / 65536 = 64 := by omega
  omega

theorem pcsTo_at (l : List UInt8) (size n : Nat) : ∀ (m i : Nat) (h : i < (pcsTo l size n m).length), (pcsTo l size n m)[i] = pieceL l size n i
  | 0, i, h => by simp [pcsTo] at h
  | m + 1, i, h => by
    simp only [pcsTo]
    rw [pcsTo_length] at h
    by_cases hi : i < m
    · rw [List.getElem_append_left (by rw [pcsTo_length]; exact hi)]
      exact pcsTo_at l size n m i _
    · have : i = m := by omega
      subst this
      rw [List.getElem_append_right (by rw [pcsTo_length]; exact Nat.le_refl _)]
      simp [pcsTo_length]
theorem pcsL_at (l : List UInt8) (size i : Nat) (h : i < nP l size) : (pcsL l size)[i]'(by rw [pcsL_length]; exact h) = pieceL l size (nP l size) i := pcsTo_at _ _ _ _ _ _
theorem pieceL_len (l : List UInt8) (size n i : Nat) : (pieceL l size n i).length = 8 + (chunkL l size i).length := by unfold pieceL; simp [be_length]; omega

theorem chunkL_len (l : List UInt8) (size i : Nat) : (chunkL l size i).length = min size (l.length - i * size) := by unfold chunkL; simp

theorem chunk63 {z : List UInt8} {i : Int} (h : (4194304 : Int) + i = (z.length : Int)) (h1 : ¬ i < -2) (h2 : ¬ 0 < i) : ((8 + (chunkL z 65536 63).length : Nat) : Int) = 65544 + i := by
  have e : z.length - 63 * 65536 ≤ 65536 := by omega
  rw [chunkL_len, Nat.min_eq_right e]
  omega

set_option maxHeartbeats 4000000 in
theorem q_BackupLongs (i w : Int) (H : AHeap) (ok : MOk H) : ∃ H', CC F.law_BackupLongs [.int .i64 i, .int .i64 w] H = some (.bool true, H') := by
  by_cases h1 : i < -2
  · refine any_of (H1 := H) (d_law_BackupLongs _ _ H ?_)
    simp (disch := first | with_reducible rfl | assumption | omega | rfl | (simp only [go_sem]; first | done | omega)) only [go_sem, ↓reduceIte, reduceCtorEq, Nat.reduceEqDiff, Nat.reduceAdd, Nat.reduceSub, Nat.reduceMul, Nat.reduceDiv, Nat.reduceMod, Nat.reduceLeDiff, Nat.reduceLT, Nat.reduceBEq, Int.reduceEq, Int.reduceBEq, Int.reduceBNe, Int.reduceLT, Int.reduceLE, Int.reduceAdd, Int.reduceSub, Int.reduceNeg, Int.reduceToNat, Int.reducePow, Nat.reducePow, Int.reduceMul, Int.reduceDiv, ↓s_law_BackupLongs, h1]
  by_cases h2 : 2 < i
  · refine any_of (H1 := H) (d_law_BackupLongs _ _ H ?_)
    simp (disch := first | with_reducible rfl | assumption | omega | rfl | (simp only [go_sem]; first | done | omega)) only [go_sem, ↓reduceIte, reduceCtorEq, Nat.reduceEqDiff, Nat.reduceAdd, Nat.reduceSub, Nat.reduceMul, Nat.reduceDiv, Nat.reduceMod, Nat.reduceLeDiff, Nat.reduceLT, Nat.reduceBEq, Int.reduceEq, Int.reduceBEq, Int.reduceBNe, Int.reduceLT, Int.reduceLE, Int.reduceAdd, Int.reduceSub, Int.reduceNeg, Int.reduceToNat, Int.reducePow, Nat.reducePow, Int.reduceMul, Int.reduceDiv, ↓s_law_BackupLongs, h1, h2]
  by_cases h3 : w < 65533
  · refine any_of (H1 := H) (d_law_BackupLongs _ _ H ?_)
    simp (disch := first | with_reducible rfl | assumption | omega | rfl | (simp only [go_sem]; first | done | omega)) only [go_sem, ↓reduceIte, reduceCtorEq, Nat.reduceEqDiff, Nat.reduceAdd, Nat.reduceSub, Nat.reduceMul, Nat.reduceDiv, Nat.reduceMod, Nat.reduceLeDiff, Nat.reduceLT, Nat.reduceBEq, Int.reduceEq, Int.reduceBEq, Int.reduceBNe, Int.reduceLT, Int.reduceLE, Int.reduceAdd, Int.reduceSub, Int.reduceNeg, Int.reduceToNat, Int.reducePow, Nat.reducePow, Int.reduceMul, Int.reduceDiv, ↓s_law_BackupLongs, h1, h2, h3]
  by_cases h4 : 65537 < w
  · refine any_of (H1 := H) (d_law_BackupLongs _ _ H ?_)
    simp (disch := first | with_reducible rfl | assumption | omega | rfl | (simp only [go_sem]; first | done | omega)) only [go_sem, ↓reduceIte, reduceCtorEq, Nat.reduceEqDiff, Nat.reduceAdd, Nat.reduceSub, Nat.reduceMul, Nat.reduceDiv, Nat.reduceMod, Nat.reduceLeDiff, Nat.reduceLT, Nat.reduceBEq, Int.reduceEq, Int.reduceBEq, Int.reduceBNe, Int.reduceLT, Int.reduceLE, Int.reduceAdd, Int.reduceSub, Int.reduceNeg, Int.reduceToNat, Int.reducePow, Nat.reducePow, Int.reduceMul, Int.reduceDiv, ↓s_law_BackupLongs, h1, h2, h3, h4]
  obtain ⟨M, hM⟩ : ∃ M : Nat, (4194304 : Int) + i = M := ⟨(4194304 + i).toNat, by omega⟩
  obtain ⟨n, hn⟩ : ∃ n : Nat, w = n := ⟨w.toNat, by omega⟩
  subst hn
  have add1 : ∀ ox oy, xbin Try.prog .add T.int ox oy (.int .i64 4194304) (.int .i64 i) = some (.int .i64 (M : Int)) := fun ox oy => by rw [← hM]; exact add_i64 (by omega)
  obtain ⟨H1, hH1⟩ : ∃ H1, H.push (.cells (zeros [.int .u8 0] M) T.uint8 true) = H1 := ⟨_, rfl⟩
  have s1 : Still H H1 := by rw [← hH1]; exact (Fr.refl H).push _
  have f1 : H1.f H.n = .cells (EB.cells (List.replicate M 0)) T.uint8 true := by rw [← hH1, zeros_cells]; exact push_f_eq rfl
  have n1 : H.n < H1.n := by rw [← hH1]; exact Nat.lt_succ_self _
  have r1 : BR H1 (.slice (some ⟨H.n, 0, none⟩) M (2 * M)) (List.replicate M 0) := by
    have := newB (l := List.replicate M 0) n1 f1
    rwa [List.length_replicate] at this
  obtain ⟨z, hz⟩ : ∃ z : List UInt8, List.replicate M 0 = z := ⟨_, rfl⟩
  have hzl : z.length = M := by rw [← hz]; simp
  have hdz : decOf z = none := by rw [← hz]; exact dec_zero (by omega)
  rw [hz] at r1
  have ok1 := ok.fr s1
  have mk1 : mkS T.uint8 [.int .u8 0] 1 (.int .i64 (M : Int)) (.int .i64 (M : Int)) H = some (.slice (some ⟨H.n, 0, none⟩) M (2 * M), H1) := by
    rw [← hH1]
    unfold mkS
    simp only
    rw [if_pos ⟨by omega, by omega, by omega, by omega⟩, Int.toNat_natCast]
  have l0 : lenS (.slice none 0 0) = some (.int .i64 0) := rfl
  by_cases hi : 0 < i
  · have hcut1 := q_Cut_long z (.slice (some ⟨H.n, 0, none⟩) M (2 * M)) 65536 H1 r1 (by decide) (by decide) (by omega)
    have hcut1 : CC F.backup_Cut [.slice (some ⟨H.n, 0, none⟩) M (2 * M), .int .i64 65536] H1 = some (.tuple #[.slice none 0 0, .int .i64 5], H1) := hcut1
    have hdec := q_decodes_long z (.slice (some ⟨H.n, 0, none⟩) M (2 * M)) H1 r1 (by omega)
    have r2 := r1
    have htl : (z.take n).length = n := by simp; omega
    obtain ⟨v3, a3, r3, _⟩ := r2.to (sz := 1) rfl (j := n) (q := .i64) (by omega)
    by_cases hn5 : 65535 < (n : Int)
    · have hcut := q_Cut_many (z.take n) v3 1 H1 r3 (by decide) (by decide) (by omega) (by rw [nP_one _ (by omega)]; omega)
      have hcut : CC F.backup_Cut [v3, .int .i64 1] H1 = some (.tuple #[.slice none 0 0, .int .i64 5], H1) := hcut
      obtain ⟨H7, hH7⟩ : ∃ H7, H1.push (.cells (zeros [.slice none 0 0] n) T.sl_uint8 true) = H7 := ⟨_, rfl⟩
      have mk2 : mkS T.sl_uint8 [.slice none 0 0] 24 (.int .i64 (n : Int)) (.int .i64 (n : Int)) H1 = some (.slice (some ⟨H1.n, 0, none⟩) n (2 * n), H7) := by
        rw [← hH7]
        unfold mkS
        simp only
        rw [if_pos ⟨by omega, by omega, by omega, by omega⟩, Int.toNat_natCast]
      have hjl := q_joins_long (.slice (some ⟨H1.n, 0, none⟩) n (2 * n)) n H7 rfl (by omega)
      have hn5' : ¬ (n : Int) ≤ 65535 := by omega
      refine any_of (H1 := H7) (d_law_BackupLongs _ _ H ?_)
      simp (disch := first | with_reducible rfl | assumption | omega | rfl | (simp only [go_sem]; first | done | omega)) only [go_sem, ↓reduceIte, reduceCtorEq, Nat.reduceEqDiff, Nat.reduceAdd, Nat.reduceSub, Nat.reduceMul, Nat.reduceDiv, Nat.reduceMod, Nat.reduceLeDiff, Nat.reduceLT, Nat.reduceBEq, Int.reduceEq, Int.reduceBEq, Int.reduceBNe, Int.reduceLT, Int.reduceLE, Int.reduceAdd, Int.reduceSub, Int.reduceNeg, Int.reduceToNat, Int.reducePow, Nat.reducePow, Int.reduceMul, Int.reduceDiv, ↓s_law_BackupLongs, h1, h2, h3, h4, add1, mk1, enterK_eq hcut1, hi, l0]
      simp (disch := first | with_reducible rfl | assumption | omega | rfl | (simp only [go_sem]; first | done | omega)) only [go_sem, ↓reduceIte, reduceCtorEq, Nat.reduceEqDiff, Nat.reduceAdd, Nat.reduceSub, Nat.reduceMul, Nat.reduceDiv, Nat.reduceMod, Nat.reduceLeDiff, Nat.reduceLT, Nat.reduceBEq, Int.reduceEq, Int.reduceBEq, Int.reduceBNe, Int.reduceLT, Int.reduceLE, Int.reduceAdd, Int.reduceSub, Int.reduceNeg, Int.reduceToNat, Int.reducePow, Nat.reducePow, Int.reduceMul, Int.reduceDiv, enterK_eq hdec, a3, enterK_eq hcut, hn5, l0, mk2, enterK_eq hjl]
    · obtain ⟨v4, H4, m4, o4, s4, _⟩ := q_Cut (z.take n) v3 1 H1 r3 (by decide) (by decide) (by omega) (by rw [nP_one _ (by omega)]; omega)
      have m4 : CC F.backup_Cut [v3, .int .i64 1] H1 = some (.tuple #[v4, .int .i64 0], H4) := m4
      have hpl := pcsL_length (z.take n) 1
      rw [nP_one _ (by omega), htl] at hpl
      have hl4 := o4.len
      rw [hpl] at hl4
      obtain ⟨b5, o5, y5, i5, c5, r5, _⟩ := o4.rds.at (i := n - 1) (by omega)
      have hy5 : lenS y5 = some (.int .i64 9) := by
        have := r5.1.lenS
        rw [pcsL_at (z.take n) 1 (n - 1) (by rw [nP_one _ (by omega)]; omega), pieceL_len] at this
        have e : (chunkL (z.take n) 1 (n - 1)).length = 1 := by unfold chunkL; simp; omega
        rw [e] at this
        exact this
      have sub1 : ∀ ox oy, xbin Try.prog .sub T.int ox oy (.int .i64 (n : Int)) (.int .i64 1) = some (.int .i64 ((n - 1 : Nat) : Int)) := fun ox oy => by
        rw [show ((n - 1 : Nat) : Int) = (n : Int) - 1 by omega]; exact sub_i64 (by omega)
      obtain ⟨v6, a6, r6, _⟩ := (r2.still s4).to (sz := 1) rfl (j := n) (q := .i64) (by omega)
      have hszp : ∀ p ∈ pcsL (z.take n) 1, p.length ≤ 9 := fun p hp => by
        obtain ⟨i, hi, rfl⟩ := mem_pcsTo.1 hp
        rw [pieceL_len]
        unfold chunkL; simp; omega
      have hsum : sumP (pcsL (z.take n) 1) ≤ 0 + ((pcsL (z.take n) 1).length : Int) * (9 : Nat) := (sum_le (M := 9) _ 0 hszp).1
      have hj := q_joins (pcsL (z.take n) 1) v4 v6 (z.take n) 0 H4 o4.rds r6 (by omega) (fun p hp => by have := hszp p hp; omega) (by rw [hpl] at hsum; omega)
      rw [jn_pcs (by decide) (by rw [nP_one _ (by omega)]; omega) PcsOf.self, decide_eq_true rfl] at hj
      refine any_of (H1 := H4) (d_law_BackupLongs _ _ H ?_)
      simp (disch := first | with_reducible rfl | assumption | omega | rfl | (simp only [go_sem]; first | done | omega)) only [go_sem, ↓reduceIte, reduceCtorEq, Nat.reduceEqDiff, Nat.reduceAdd, Nat.reduceSub, Nat.reduceMul, Nat.reduceDiv, Nat.reduceMod, Nat.reduceLeDiff, Nat.reduceLT, Nat.reduceBEq, Int.reduceEq, Int.reduceBEq, Int.reduceBNe, Int.reduceLT, Int.reduceLE, Int.reduceAdd, Int.reduceSub, Int.reduceNeg, Int.reduceToNat, Int.reducePow, Nat.reducePow, Int.reduceMul, Int.reduceDiv, ↓s_law_BackupLongs, h1, h2, h3, h4, add1, mk1, enterK_eq hcut1, hi, l0]
      simp (disch := first | with_reducible rfl | assumption | omega | rfl | (simp only [go_sem]; first | done | omega)) only [go_sem, ↓reduceIte, reduceCtorEq, Nat.reduceEqDiff, Nat.reduceAdd, Nat.reduceSub, Nat.reduceMul, Nat.reduceDiv, Nat.reduceMod, Nat.reduceLeDiff, Nat.reduceLT, Nat.reduceBEq, Int.reduceEq, Int.reduceBEq, Int.reduceBNe, Int.reduceLT, Int.reduceLE, Int.reduceAdd, Int.reduceSub, Int.reduceNeg, Int.reduceToNat, Int.reducePow, Nat.reducePow, Int.reduceMul, Int.reduceDiv, enterK_eq hdec, a3, enterK_eq m4, hn5, hl4, sub1, i5, c5, hy5, a6, enterK_eq hj]
  · have hnp : nP z 65536 = 64 := nP_64 (by omega) (by omega)
    obtain ⟨v2, H2, m2, o2, s2, _⟩ := q_Cut z (.slice (some ⟨H.n, 0, none⟩) M (2 * M)) 65536 H1 r1 (by decide) (by decide) (by omega) (by omega)
    have m2 : CC F.backup_Cut [.slice (some ⟨H.n, 0, none⟩) M (2 * M), .int .i64 65536] H1 = some (.tuple #[v2, .int .i64 0], H2) := m2
    have hl64 : lenS v2 = some (.int .i64 64) := by
      have := o2.len
      rw [pcsL_length, hnp] at this
      exact this
    obtain ⟨b9, o9, y9, i9, c9, r9, _⟩ := o2.rds.at (i := 63) (by rw [pcsL_length]; omega)
    have i9 : ixS 1 v2 (.int .i64 63) = some (.pointer (some ⟨b9, o9, none⟩)) := i9
    have hy9 : lenS y9 = some (.int .i64 (65544 + i)) := by
      have := r9.1.lenS
      rw [pcsL_at z 65536 63 (by omega), pieceL_len] at this
      have e := chunk63 (z := z) (i := i) (by omega) (by omega) (by omega)
      rw [this]
      congr 2
    have add2 : ∀ ox oy, xbin Try.prog .add T.int ox oy (.int .i64 65544) (.int .i64 i) = some (.int .i64 (65544 + i)) := fun ox oy => add_i64 (by omega)
    have hdec := q_decodes_none z (.slice (some ⟨H.n, 0, none⟩) M (2 * M)) H2 (ok1.fr s2) (r1.still s2) (by omega) hdz
    have r2 := r1.still s2
    have htl : (z.take n).length = n := by simp; omega
    obtain ⟨v3, a3, r3, _⟩ := r2.to (sz := 1) rfl (j := n) (q := .i64) (by omega)
    by_cases hn5 : 65535 < (n : Int)
    · have hcut := q_Cut_many (z.take n) v3 1 H2 r3 (by decide) (by decide) (by omega) (by rw [nP_one _ (by omega)]; omega)
      have hcut : CC F.backup_Cut [v3, .int .i64 1] H2 = some (.tuple #[.slice none 0 0, .int .i64 5], H2) := hcut
      obtain ⟨H7, hH7⟩ : ∃ H7, H2.push (.cells (zeros [.slice none 0 0] n) T.sl_uint8 true) = H7 := ⟨_, rfl⟩
      have mk2 : mkS T.sl_uint8 [.slice none 0 0] 24 (.int .i64 (n : Int)) (.int .i64 (n : Int)) H2 = some (.slice (some ⟨H2.n, 0, none⟩) n (2 * n), H7) := by
        rw [← hH7]
        unfold mkS
        simp only
        rw [if_pos ⟨by omega, by omega, by omega, by omega⟩, Int.toNat_natCast]
      have hjl := q_joins_long (.slice (some ⟨H2.n, 0, none⟩) n (2 * n)) n H7 rfl (by omega)
      have hn5' : ¬ (n : Int) ≤ 65535 := by omega
      refine any_of (H1 := H7) (d_law_BackupLongs _ _ H ?_)
      simp (disch := first | with_reducible rfl | assumption | omega | rfl | (simp only [go_sem]; first | done | omega)) only [go_sem, ↓reduceIte, reduceCtorEq, Nat.reduceEqDiff, Nat.reduceAdd, Nat.reduceSub, Nat.reduceMul, Nat.reduceDiv, Nat.reduceMod, Nat.reduceLeDiff, Nat.reduceLT, Nat.reduceBEq, Int.reduceEq, Int.reduceBEq, Int.reduceBNe, Int.reduceLT, Int.reduceLE, Int.reduceAdd, Int.reduceSub, Int.reduceNeg, Int.reduceToNat, Int.reducePow, Nat.reducePow, Int.reduceMul, Int.reduceDiv, ↓s_law_BackupLongs, h1, h2, h3, h4, add1, mk1, enterK_eq m2, hi, hl64, i9, c9, hy9, add2]
      simp (disch := first | with_reducible rfl | assumption | omega | rfl | (simp only [go_sem]; first | done | omega)) only [go_sem, ↓reduceIte, reduceCtorEq, Nat.reduceEqDiff, Nat.reduceAdd, Nat.reduceSub, Nat.reduceMul, Nat.reduceDiv, Nat.reduceMod, Nat.reduceLeDiff, Nat.reduceLT, Nat.reduceBEq, Int.reduceEq, Int.reduceBEq, Int.reduceBNe, Int.reduceLT, Int.reduceLE, Int.reduceAdd, Int.reduceSub, Int.reduceNeg, Int.reduceToNat, Int.reducePow, Nat.reducePow, Int.reduceMul, Int.reduceDiv, enterK_eq hdec, a3, enterK_eq hcut, hn5, l0, mk2, enterK_eq hjl]
    · obtain ⟨v4, H4, m4, o4, s4, _⟩ := q_Cut (z.take n) v3 1 H2 r3 (by decide) (by decide) (by omega) (by rw [nP_one _ (by omega)]; omega)
      have m4 : CC F.backup_Cut [v3, .int .i64 1] H2 = some (.tuple #[v4, .int .i64 0], H4) := m4
      have hpl := pcsL_length (z.take n) 1
      rw [nP_one _ (by omega), htl] at hpl
      have hl4 := o4.len
      rw [hpl] at hl4
      obtain ⟨b5, o5, y5, i5, c5, r5, _⟩ := o4.rds.at (i := n - 1) (by omega)
      have hy5 : lenS y5 = some (.int .i64 9) := by
        have := r5.1.lenS
        rw [pcsL_at (z.take n) 1 (n - 1) (by rw [nP_one _ (by omega)]; omega), pieceL_len] at this
        have e : (chunkL (z.take n) 1 (n - 1)).length = 1 := by unfold chunkL; simp; omega
        rw [e] at this
        exact this
      have sub1 : ∀ ox oy, xbin Try.prog .sub T.int ox oy (.int .i64 (n : Int)) (.int .i64 1) = some (.int .i64 ((n - 1 : Nat) : Int)) := fun ox oy => by
        rw [show ((n - 1 : Nat) : Int) = (n : Int) - 1 by omega]; exact sub_i64 (by omega)
      obtain ⟨v6, a6, r6, _⟩ := (r2.still s4).to (sz := 1) rfl (j := n) (q := .i64) (by omega)
      have hszp : ∀ p ∈ pcsL (z.take n) 1, p.length ≤ 9 := fun p hp => by
        obtain ⟨i, hi, rfl⟩ := mem_pcsTo.1 hp
        rw [pieceL_len]
        unfold chunkL; simp; omega
      have hsum : sumP (pcsL (z.take n) 1) ≤ 0 + ((pcsL (z.take n) 1).length : Int) * (9 : Nat) := (sum_le (M := 9) _ 0 hszp).1
      have hj := q_joins (pcsL (z.take n) 1) v4 v6 (z.take n) 0 H4 o4.rds r6 (by omega) (fun p hp => by have := hszp p hp; omega) (by rw [hpl] at hsum; omega)
      rw [jn_pcs (by decide) (by rw [nP_one _ (by omega)]; omega) PcsOf.self, decide_eq_true rfl] at hj
      refine any_of (H1 := H4) (d_law_BackupLongs _ _ H ?_)
      simp (disch := first | with_reducible rfl | assumption | omega | rfl | (simp only [go_sem]; first | done | omega)) only [go_sem, ↓reduceIte, reduceCtorEq, Nat.reduceEqDiff, Nat.reduceAdd, Nat.reduceSub, Nat.reduceMul, Nat.reduceDiv, Nat.reduceMod, Nat.reduceLeDiff, Nat.reduceLT, Nat.reduceBEq, Int.reduceEq, Int.reduceBEq, Int.reduceBNe, Int.reduceLT, Int.reduceLE, Int.reduceAdd, Int.reduceSub, Int.reduceNeg, Int.reduceToNat, Int.reducePow, Nat.reducePow, Int.reduceMul, Int.reduceDiv, ↓s_law_BackupLongs, h1, h2, h3, h4, add1, mk1, enterK_eq m2, hi, hl64, i9, c9, hy9, add2]
      simp (disch := first | with_reducible rfl | assumption | omega | rfl | (simp only [go_sem]; first | done | omega)) only [go_sem, ↓reduceIte, reduceCtorEq, Nat.reduceEqDiff, Nat.reduceAdd, Nat.reduceSub, Nat.reduceMul, Nat.reduceDiv, Nat.reduceMod, Nat.reduceLeDiff, Nat.reduceLT, Nat.reduceBEq, Int.reduceEq, Int.reduceBEq, Int.reduceBNe, Int.reduceLT, Int.reduceLE, Int.reduceAdd, Int.reduceSub, Int.reduceNeg, Int.reduceToNat, Int.reducePow, Nat.reducePow, Int.reduceMul, Int.reduceDiv, enterK_eq hdec, a3, enterK_eq m4, hn5, hl4, sub1, i5, c5, hy5, a6, enterK_eq hj]

theorem run_BackupLongs (i w : Int) (_ : (Lit.int .i64 i).wf = true) (_ : (Lit.int .i64 w).wf = true) : ∃ k H', dCall Try.prog prims1 hints k F.law_BackupLongs [.int .i64 i, .int .i64 w] H0 = some (.bool true, H') := by
  obtain ⟨H', h⟩ := q_BackupLongs i w H0 (fun _ => Nat.zero_lt_one)
  obtain ⟨k, h⟩ := D_run h
  exact ⟨k, _, h⟩

end Go.Proofs.Ytehnchfnhbmkdaa

/-
  The law BackupLongs: for every input it returns true, and its input reads as it did.
  Conditions: none. By an AI agent.
-/
namespace Go.Proofs.Ytehnchfnhbmkdaa.backupLongs
open Go.ChangeShapes Go.WideShapes Go.ChangeAt Go.RowKit
open Go.ChangeMaps (open_string shut_string)
set_option linter.unusedVariables false
theorem own : ownKnob Try.prog.godebug = none := by kernel_rfl
set_option maxRecDepth 100000 in
theorem lifted (os : Os) (started : os.Started) (H : Type) (enc : TypeId × Value → H) :
    ReturnsInHanded {} Try.checked os 5 .any (Rows.backupLongsSpec.pre6 enc Try.prog Try.f5 Rows.backupLongsRow.domain false) (Rows.backupLongsSpec.post enc Try.prog Try.f5 false true false false) := by
  refine returnsInHanded_of_change_sized (C := Try.checked) own started (by kernel_rfl) Try.func5
    (ChangeSpec.witness6 (enc := enc) (C := Try.checked) false ⟨#[], #[.int .i64 0, .int .i64 0], []⟩ 8 (by kernel_rfl) (by kernel_rfl) (by kernel_rfl) (by kernel_rfl)) ?_
  intro W base args ds gs before hval0 hW hcnd hsz0 _
  have hsz : (DataW.weightsEach Try.prog (Try.f5.params.toList ++ Rows.backupLongsSpec.plain.varTypes Try.prog) (ds ++ gs)).all (· ≤ reachBytes) = true := hsz0
  have hval : ∀ (j : Nat) t v, Try.f5.params[j]? = some t → args[j]? = some v → Value.okWide Try.prog W .any base t v := hval0
  have hW' := hW
  obtain ⟨p, q, hA0, hV, rfl, hfz, hnd⟩ := hW
  have hA : DataW.TrodAll enc Try.prog W 0 (fun _ => true) true Try.f5.params.toList args.toList ds p := hA0
  rw [Try.params5] at hA hval hsz
  obtain ⟨v0, vs0, d0, ds0, p0, q0, hargs, rfl, rfl, h0, r0⟩ := trodAll_cons hA
  obtain ⟨v1, vs1, d1, ds1, p1, q1, rfl, rfl, rfl, h1, r1⟩ := trodAll_cons r0
  obtain ⟨rfl, rfl, rfl⟩ := trodAll_nil r1
  obtain rfl : args = #[v0, v1] := by cases args; simp_all
  obtain ⟨rfl, rfl⟩ := trodVars_none hV
  obtain ⟨a0, rfl, rfl, rfl, w0⟩ := open_int Try.underlying3 (hval 0 3 v0 rfl rfl) h0
  obtain ⟨a1, rfl, rfl, rfl, w1⟩ := open_int Try.underlying3 (hval 1 3 v1 rfl rfl) h1
  clear hA0 hval0 hsz0 hsz
  refine (Eng.law_calls0 (args := #[.int .i64 a0, .int .i64 a1]) prims1_ok mixed (fun _ hg => absurd hg List.not_mem_nil) rfl (run_BackupLongs a0 a1 w0 w1)).mono fun e W' ⟨he, bel⟩ => ?_
  subst he
  exact ⟨_, rfl, _, _, _, [], _, [], hW', trodAll_mk1 (shut_bool Try.underlying4 _), (trodAll_cons_mk (shut_int Try.underlying3 w0) (trodAll_cons_mk (shut_int Try.underlying3 w1) trodAll_mk0)), rfl, bel.frame _, fun h => by cases h⟩

theorem over : Rows.backupLongsRow.holds Try.pinned (OpenSpec.ofChange Rows.backupLongsSpec) :=
  OpenClaim.holds_of_wide 5 Try.f5 rfl rfl rfl rfl rfl rfl rfl ⟨rfl, rfl, rfl, rfl, rfl⟩ rfl rfl rfl rfl rfl (by kernel_rfl) Try.func5 (by kernel_rfl)
    (of_decide_eq_true (by kernel_rfl)) (by unfold Func.isWrapper; first | (rw [if_pos (by decide +kernel)]; kernel_rfl) | (rw [if_neg (by decide +kernel)]; exact ⟨rfl, rfl⟩))
    (fun os started H enc _ => lifted os started H enc)
theorem proved : Rows.BackupLongsSaid := over
#print axioms proved
end Go.Proofs.Ytehnchfnhbmkdaa.backupLongs
namespace Go.Proofs.Ytehnchfnhbmkdaa
/-- The row, under a short name, for the claim. -/
theorem backupLongs_holds : Rows.BackupLongsSaid := backupLongs.proved
end Go.Proofs.Ytehnchfnhbmkdaa
