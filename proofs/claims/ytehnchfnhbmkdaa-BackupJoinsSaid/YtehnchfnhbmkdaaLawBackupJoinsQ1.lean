/-
  7 texts in one (merge.py): ShBackupCuts DsBackupCuts P ShBackupJoins DsBackupJoins Q LawBackupJoins.
  Conditions: none. By an AI agent.
-/
import Derived.Test.YtehnchfnhbmkdaaQb4
import Derived.Test.YtehnchfnhbmkdaaChecked
import Derived.KernelRfl
import Derived.Test.YtehnchfnhbmkdaaRows
import Derived.WalkKit
import Derived.ProofKit
import Derived.OpenShut
import Derived.ShutString
import Derived.ChangeOld
import Derived.Below
import Derived.SizedLaws
import Derived.ChangeArms
import Derived.Carry

/-
  The seat's functions as terms over the engine's combinators (a program of ours printed it).
  Conditions: none. By an AI agent.
-/
set_option linter.unusedVariables false
namespace Go.Proofs.Ytehnchfnhbmkdaa
open Go Eng

/-! ticketline.ticketlinelaw48.BackupCuts -/

noncomputable def s_law_BackupCuts (mg : GT) (mc : CT) (ms : ST) (P : Program) (C : CallF) (L0 : Value → Value → Value → Value → AHeap → K → Res) (a0 : Value) (a1 : Value) (a2 : Value) (H : AHeap) (K0 : K) : Res :=
bareK (lenS a0) H fun t13 h1 =>
bareK (xbin P .gtr T.int (.tmp 13) (.const (.int .i64 300)) t13 (.int .i64 300)) h1 fun t14 h2 =>
mg t14 false (fun o1 => o1 a2 h2) h2 fun t16 h3 =>
mg t14 false (fun o2 => bareK (lenS t16) h3 o2) h3 fun t17 h4 =>
mg t14 false (fun o3 => bareK (xbin P .gtr T.int (.tmp 17) (.const (.int .i64 300)) t17 (.int .i64 300)) h4 o3) h4 fun t18 h5 =>
pickK t14 (.bool true) t18 fun t19 =>
mc t19 (fun k4 => enterK C F.law_known [] h5 fun t20 h6 =>
k4 .ret [(6, t20)] h6) (fun k4 =>
k4 .normal [(0, a0), (1, a1), (2, a2)] h5) (seqK (fun tT h7 =>
bareK (xbin P .lss T.int (.tmp 21) (.const (.int .i64 1)) (get tT 1) (.int .i64 1)) h7 fun t22 h8 =>
mg t22 false (fun o5 => o5 (get tT 1) h8) h8 fun t24 h9 =>
mg t22 false (fun o6 => bareK (xbin P .gtr T.int (.tmp 24) (.const (.int .i64 65536)) t24 (.int .i64 65536)) h9 o6) h9 fun t25 h10 =>
pickK t22 (.bool true) t25 fun t26 =>
mc t26 (fun k7 => enterK C F.law_cuts [(get tT 0), (get tT 1), (.slice none 0 0), (.int .i64 2)] h10 fun t29 h11 =>
mg t29 true (fun o8 => enterK C F.law_known [] h11 o8) h11 fun t31 h12 =>
pickK t29 t31 (.bool false) fun t32 =>
k7 .ret [(6, t32)] h12) (fun k7 =>
k7 .normal [(0, (get tT 0)), (1, (get tT 1)), (2, (get tT 2))] h10) (seqK (fun tT_1 h13 =>
enterK C F.law_pieces [(get tT_1 0), (get tT_1 1)] h13 fun t35 h14 =>
bothK (app T.uint8 1 1 (.slice none 0 0) (srcS 1 (get tT_1 0) h14) h14) fun t37 h15 =>
enterK C F.law_cuts [t37, (get tT_1 1), t35, (.int .i64 0)] h15 fun t41 h16 =>
bareK (xun P .not t41) h16 fun t42 h17 =>
mg t42 false (fun o9 => o9 t37 h17) h17 fun t44 h18 =>
mg t42 false (fun o10 => bothK (xconv P T.sl_uint8 T.string t44 h18) o10) h18 fun t45 h19 =>
mg t42 false (fun o11 => o11 (get tT_1 0) h19) h19 fun t46 h20 =>
mg t42 false (fun o12 => bothK (xconv P T.sl_uint8 T.string t46 h20) o12) h20 fun t47 h21 =>
mg t42 false (fun o13 => bareK (xbin P .neq T.string (.tmp 45) (.tmp 47) t45 t47) h21 o13) h21 fun t48 h22 =>
pickK t42 (.bool true) t48 fun t49 =>
mc t49 (fun k14 => k14 .ret [(6, (.bool false))] h22) (fun k14 =>
k14 .normal [(0, (get tT_1 0)), (2, (get tT_1 2)), (7, t35)] h22) (seqK (fun tT_2 h23 =>
ms (fun k15 =>
L0 (get tT_2 0) (get tT_2 2) (get tT_2 7) (.int .i64 0) h23 (blkK [0, 7] 0 k15)) (seqK (fun tT_3 h24 =>
enterK C F.law_joins [(get tT_3 7), (get tT_3 0), (.int .i64 0)] h24 fun t102 h25 =>
mg t102 true (fun o16 => enterK C F.law_known [] h25 o16) h25 fun t104 h26 =>
pickK t102 t104 (.bool false) fun t105 =>
K0 .ret [(6, t105)] h26) K0)) K0)) K0)) K0)

noncomputable def s_law_BackupCuts_b0 (mg : GT) (mc : CT) (ms : ST) (P : Program) (C : CallF) (L0 : Value → Value → Value → Value → AHeap → K → Res) (v0 : Value) (v2 : Value) (v7 : Value) (v9 : Value) (H : AHeap) (k : K) : Res :=
bareK (lenS v2) H fun t52 h24 =>
bareK (xbin P .lss T.int (.tmp 50) (.tmp 52) v9 t52) h24 fun t53 h25 =>
mc t53 (fun k16 => k16 .normal [(0, v0), (2, v2), (7, v7), (9, v9)] h25) (fun k16 =>
k16 (.exit 0) [(53, t53), (52, t52), (51, v2), (50, v9), (0, v0), (2, v2), (7, v7), (9, v9)] h25) (seqK (fun tT h26 =>
ms (fun k17 =>
bareK (lenS (get tT 7)) h26 fun t58 h27 =>
bareK (xbin P .rem T.int (.tmp 56) (.tmp 58) (get tT 9) t58) h27 fun t59 h28 =>
bareK (ixS 1 (get tT 2) (get tT 9)) h28 fun t62 h29 =>
bareK (ld1 h29 t62) h29 fun t63 h30 =>
bothK (xconv P T.uint8 T.int t63 h30) fun t64 h31 =>
bareK (lenS (get tT 7)) h31 fun t66 h32 =>
bareK (xbin P .rem T.int (.tmp 64) (.tmp 66) t64 t66) h32 fun t67 h33 =>
checkK true <|
bareK (ixS 1 (get tT 7) t67) h33 fun t74 h34 =>
bareK (ld1 h34 t74) h34 fun t75 h35 =>
bareK (ixS 1 (get tT 7) t59) h35 fun t78 h36 =>
bareK (ld1 h36 t78) h36 fun t79 h37 =>
bareK (ixS 1 (get tT 7) t59) h37 fun t80 h38 =>
quietK (st1 h38 t80 t75) fun _ h39 =>
bareK (ixS 1 (get tT 7) t67) h39 fun t81 h40 =>
quietK (st1 h40 t81 t79) fun _ h41 =>
checkK (okV (some true) none h38 h39 h33 h33 && (okV (some true) none h38 h39 h33 h33 && true)) <|
bareK (ixS 1 (get tT 2) (get tT 9)) h41 fun t84 h42 =>
bareK (ld1 h42 t84) h42 fun t85 h43 =>
bareK (xbin P .geq T.uint8 (.tmp 85) (.const (.int .u8 200)) t85 (.int .u8 200)) h43 fun t86 h44 =>
mg t86 true (fun o18 => o18 (get tT 7) h44) h44 fun t88 h45 =>
mg t86 true (fun o19 => bareK (lenS t88) h45 o19) h45 fun t89 h46 =>
mg t86 true (fun o20 => bareK (xbin P .lss T.int (.tmp 89) (.const (.int .i64 600)) t89 (.int .i64 600)) h46 o20) h46 fun t90 h47 =>
pickK t86 t90 (.bool false) fun t91 =>
mc t91 (fun k21 => bareK (ixS 1 (get tT 7) t59) h47 fun t95 h48 =>
bareK (ld1 h48 t95) h48 fun t96 h49 =>
bothK (app T.uint8 1 1 (.slice none 0 0) (srcS 1 t96 h49) h49) fun t97 h50 =>
bothK (bldL T.sl_uint8 [(.slice none 0 0)] 1 [(0, t97)] h50) fun t98 h51 =>
bothK (app T.sl_uint8 1 24 (get tT 7) (srcS 1 t98 h51) h51) fun t99 h52 =>
k21 .normal [(0, (get tT 0)), (2, (get tT 2)), (7, t99), (9, (get tT 9))] h52) (fun k21 =>
k21 .normal [(0, (get tT 0)), (2, (get tT 2)), (7, (get tT 7)), (9, (get tT 9))] h47) (blkK [0, 2, 7, 9] 1 k17)) (seqK (fun tT_1 h53 =>
bareK (xbin P .add T.int (.tmp 54) (.const (.int .i64 1)) (get tT_1 9) (.int .i64 1)) h53 fun t55 h54 =>
k .normal [(0, (get tT_1 0)), (2, (get tT_1 2)), (7, (get tT_1 7)), (9, t55)] h54) (afterK [0, 2, 7, 9] k))) (afterK [0, 2, 7, 9] k))

theorem s_law_BackupCuts_eq (M : CombL) (C : CallF) (LP : LoopH) (a0 : Value) (a1 : Value) (a2 : Value) (H : AHeap) : dBodyL M Try.prog hints C LP F.law_BackupCuts [a0, a1, a2] H = s_law_BackupCuts M.b.g M.c M.s Try.prog C (fun v0 v2 v7 v9 H k => loopL M Try.prog hints C LP F.law_BackupCuts 0 [(0, v0), (2, v2), (7, v7), (9, v9)] H k) a0 a1 a2 H (endK Try.prog [.tmp 6]) := by kernel_rfl

theorem s_law_BackupCuts_b0_eq (M : CombL) (C : CallF) (LP : LoopH) (v0 : Value) (v2 : Value) (v7 : Value) (v9 : Value) (H : AHeap) (k : K) : bodyL M Try.prog hints C LP F.law_BackupCuts 0 [(0, v0), (2, v2), (7, v7), (9, v9)] H (afterK [0, 2, 7, 9] k) = s_law_BackupCuts_b0 M.b.g M.c M.s Try.prog C (fun v0 v2 v7 v9 H k => loopL M Try.prog hints C LP F.law_BackupCuts 0 [(0, v0), (2, v2), (7, v7), (9, v9)] H k) v0 v2 v7 v9 H k := by kernel_rfl

end Go.Proofs.Ytehnchfnhbmkdaa

/-
  The equations of the seat's functions over calls in the limit (a program of ours printed it).
  Conditions: none. By an AI agent.
-/
set_option linter.unusedVariables false
namespace Go.Proofs.Ytehnchfnhbmkdaa
open Go Eng



noncomputable def l_law_BackupCuts_0 (v0 : Value) (v2 : Value) (v7 : Value) (v9 : Value) (H : AHeap) (k : K) : Res := loopL stdL Try.prog hints CC limLP F.law_BackupCuts 0 [(0, v0), (2, v2), (7, v7), (9, v9)] H k
theorem r_law_BackupCuts_0 (v0 : Value) (v2 : Value) (v7 : Value) (v9 : Value) (H : AHeap) (k : K) : l_law_BackupCuts_0 v0 v2 v7 v9 H k = s_law_BackupCuts_b0 guardK condL shareL Try.prog CC l_law_BackupCuts_0 v0 v2 v7 v9 H (seqK (fun T H => l_law_BackupCuts_0 (get T 0) (get T 2) (get T 7) (get T 9) H k) k) := ((loopL_next (by kernel_rfl) rfl H k).trans (s_law_BackupCuts_b0_eq stdL CC limLP v0 v2 v7 v9 H _)).trans (by kernel_rfl)
theorem d_law_BackupCuts (a0 : Value) (a1 : Value) (a2 : Value) (H : AHeap) {r : Value × AHeap} (h : s_law_BackupCuts guardK condL shareL Try.prog CC l_law_BackupCuts_0 a0 a1 a2 H (endK Try.prog [.tmp 6]) = some r) : CC F.law_BackupCuts [a0, a1, a2] H = some (tidy H r) := D_body (by kernel_rfl) ((s_law_BackupCuts_eq stdL CC limLP a0 a1 a2 H).trans (Eq.trans (show s_law_BackupCuts stdL.b.g stdL.c stdL.s Try.prog CC (fun v0 v2 v7 v9 H k => loopL stdL Try.prog hints CC limLP F.law_BackupCuts 0 [(0, v0), (2, v2), (7, v7), (9, v9)] H k) a0 a1 a2 H (endK Try.prog [.tmp 6]) = s_law_BackupCuts guardK condL shareL Try.prog CC l_law_BackupCuts_0 a0 a1 a2 H (endK Try.prog [.tmp 6]) by kernel_rfl) h))

end Go.Proofs.Ytehnchfnhbmkdaa

/-
  Chapter 48: BackupCuts.
  Conditions: none. By an AI agent.
-/
set_option maxRecDepth 10000
set_option linter.unusedSimpArgs false
set_option linter.unusedVariables false
namespace Go.Proofs.Ytehnchfnhbmkdaa
open Go Eng

theorem PcsOf.swap {l : List UInt8} {size : Nat} {ls : List (List UInt8)} (h : PcsOf l size ls) {i j : Nat} (hi : i < ls.length) (hj : j < ls.length) : PcsOf l size ((ls.set i ls[j]).set j ls[i]) := by
  refine ⟨fun p hp => ?_, fun p hp => ?_⟩
  · rcases List.mem_or_eq_of_mem_set hp with hp | rfl
    · rcases List.mem_or_eq_of_mem_set hp with hp | rfl
      · exact h.1 p hp
      · exact h.1 _ (List.getElem_mem _)
    · exact h.1 _ (List.getElem_mem _)
  · obtain ⟨k, hk, e⟩ := List.getElem_of_mem (h.2 p hp)
    by_cases k1 : k = i
    · subst k1
      refine List.mem_iff_getElem.2 ⟨j, by simpa using hj, ?_⟩
      simp [e]
    · by_cases k2 : k = j
      · subst k2
        refine List.mem_iff_getElem.2 ⟨i, by simpa using hi, ?_⟩
        rw [List.getElem_set_ne (by omega)]
        simp [e]
      · refine List.mem_iff_getElem.2 ⟨k, by simpa using hk, ?_⟩
        rw [List.getElem_set_ne (by omega), List.getElem_set_ne (by omega)]
        exact e
theorem PcsOf.more {l : List UInt8} {size : Nat} {ls : List (List UInt8)} (h : PcsOf l size ls) {i : Nat} (hi : i < ls.length) : PcsOf l size (ls ++ [ls[i]]) := by
  refine ⟨fun p hp => ?_, fun p hp => by simp [h.2 p hp]⟩
  rcases List.mem_append.1 hp with hp | hp
  · exact h.1 p hp
  · simp at hp; subst hp; exact h.1 _ (List.getElem_mem _)
theorem PcsOf.pos {l : List UInt8} {size : Nat} {ls : List (List UInt8)} (h : PcsOf l size ls) : 0 < ls.length := by
  have hpos : 0 < nP l size := by unfold nP; omega
  exact List.length_pos_of_mem (h.2 _ (mem_pcsTo.2 ⟨0, hpos, rfl⟩))

theorem blockOf_lt {H : AHeap} {v : Value} {l : List UInt8} (r : BR H v l) {b : Nat} (h : blockOf v = some b) : b < H.n := by
  rcases r.2 with h' | ⟨b', o, n', code, h', _, _, h3⟩
  · rw [h'] at h; cases h
  · rw [h'] at h; cases h; exact h3

/-- A copy of an element. -/
theorem copyB {H : AHeap} {y : Value} {l : List UInt8} (r : BR H y l) (hl : l.length ≤ 1000000000) : ∃ a n c H', app T.uint8 1 1 (.slice none 0 0) (srcS 1 y H) H = some (.slice a n c, H') ∧ Own EB H' T.uint8 (.slice a n c) l ∧ Still H H' ∧ ∀ b, blockOf (.slice a n c) = some b → H.n ≤ b := by
  have hnil : Own EB H T.uint8 (.slice none 0 0) [] := .inl ⟨rfl, rfl⟩
  obtain ⟨v', H', e1, e2, e3, e4⟩ := hnil.appA l (sz := 1) (bytes := 1) rfl (by simp; omega) (by simp; omega) (r.1.src (sz := 1) rfl)
  rw [List.nil_append] at e2
  obtain ⟨a, c, rfl⟩ := e2.rd.shape
  refine ⟨a, _, c, H', e1, e2, e3.mono (fun b _ h => by unfold OnlyOf at h; cases h), fun b h => ?_⟩
  rcases e4 with e4 | e4
  · rw [e4] at h; cases h
  · rw [e4] at h; cases h; exact Nat.le_refl _

/-- One round. -/
theorem r_Cuts (a l : List UInt8) (size : Nat) (va vl : Value) (H0 : AHeap) (hl : BR H0 vl l) (hl3 : l.length ≤ 300) (i : Nat) (hi : i < l.length) (H : AHeap) (out : Value) (ls : List (List UInt8)) (hs : Still H0 H) (ro : OwnS H out ls) (hb : ∀ b, blockOf out = some b → H0.n ≤ b) (hp : PcsOf a size ls) (hsz : ∀ p ∈ ls, p.length ≤ 400) (hll : ls.length ≤ 600) :
    ∃ out' H' ls', (∀ K : K, l_law_BackupCuts_0 va vl out (.int .i64 (i : Int)) H (blkK [0, 7] 0 K) = l_law_BackupCuts_0 va vl out' (.int .i64 ((i + 1 : Nat) : Int)) H' (blkK [0, 7] 0 K)) ∧
      Still H0 H' ∧ OwnS H' out' ls' ∧ (∀ b, blockOf out' = some b → H0.n ≤ b) ∧ PcsOf a size ls' ∧ (∀ p ∈ ls', p.length ≤ 400) ∧ ls'.length ≤ 600 := by
  have hpos := hp.pos
  have hlt : (i : Int) < (l.length : Int) := by omega
  have hlen := (hl.still hs).1.lenS
  have hlo := ro.len
  obtain ⟨bc, oc, ic, cc, _, _⟩ := (hl.still hs).1.byte hi
  obtain ⟨c, hc⟩ : ∃ c, l[i] = c := ⟨_, rfl⟩
  rw [hc] at cc
  obtain ⟨ia, hia⟩ : ∃ k, i % ls.length = k := ⟨_, rfl⟩
  obtain ⟨ib, hib⟩ : ∃ k, c.toNat % ls.length = k := ⟨_, rfl⟩
  have la : ia < ls.length := by rw [← hia]; exact Nat.mod_lt _ hpos
  have lb : ib < ls.length := by rw [← hib]; exact Nat.mod_lt _ hpos
  have q1 : ∀ ox oy, xbin Try.prog .rem T.int ox oy (.int .i64 (i : Int)) (.int .i64 (ls.length : Int)) = some (.int .i64 (ia : Int)) := fun ox oy => by rw [← hia]; exact remN hpos
  have q2 : ∀ ox oy, xbin Try.prog .rem T.int ox oy (.int .i64 (c.toNat : Int)) (.int .i64 (ls.length : Int)) = some (.int .i64 (ib : Int)) := fun ox oy => by rw [← hib]; exact remN hpos
  have hw : IntKind.wrap .i64 (c.toNat : Int) = (c.toNat : Int) := wrap_i64 ⟨by omega, by have := u8_lt c; omega⟩
  -- the two elements
  obtain ⟨bb, ob, _, yb, i2, k2, k3, c2, r2, f2, _⟩ := ro.set lb (x := .slice none 0 0) (l := []) RdS.nil (fun b h => by cases h)
  obtain ⟨ba, oa, ka, ya, i1, k4, k5, c1, r1, f1, w1, o1, fr1⟩ := ro.set la r2 f2
  obtain ⟨H1, hH1⟩ : ∃ H1, H.set ba ka = H1 := ⟨_, rfl⟩
  rw [hH1] at o1 fr1
  obtain ⟨bb', ob', kb, _, i3, k6, k7, _, _, _, w2, o2, fr2⟩ := o1.set (i := ib) (by simpa using lb) (r1.keep fr1 f1) f1
  rw [i2] at i3
  cases i3
  obtain ⟨H2, hH2⟩ : ∃ H2, H1.set bb kb = H2 := ⟨_, rfl⟩
  rw [hH2] at o2 fr2
  have hp2 := hp.swap la lb
  have s2 : Still H0 H2 := (hs.then fr1 fun b hb1 h => by unfold OnlyOf at h; have := hb b h; omega).then fr2 fun b hb1 h => by unfold OnlyOf at h; have := hb b h; omega
  obtain ⟨bc', oc', ic', cc', _, _⟩ := (hl.still s2).1.byte hi
  rw [ic] at ic'
  cases ic'
  rw [hc] at cc'
  have hck : okV (some true) none H H1 H H = true := okV_none (.inl (Nat.le_refl _))
  have hlo2 := o2.len
  have hsz2 : ∀ p ∈ (ls.set ia ls[ib]).set ib ls[ia], p.length ≤ 400 := fun p hp => by
    rcases List.mem_or_eq_of_mem_set hp with hp | rfl
    · rcases List.mem_or_eq_of_mem_set hp with hp | rfl
      · exact hsz p hp
      · exact hsz _ (List.getElem_mem _)
    · exact hsz _ (List.getElem_mem _)
  have hl2 : ((ls.set ia ls[ib]).set ib ls[ia]).length = ls.length := by simp
  generalize (ls.set ia ls[ib]).set ib ls[ia] = ls2 at o2 hp2 hlo2 hsz2 hl2
  rw [hl2] at hlo2
  have fin : ∀ (_ : ¬ (200 ≤ (c.toNat : Int) ∧ (ls.length : Int) < 600)), ∀ K : K, l_law_BackupCuts_0 va vl out (.int .i64 (i : Int)) H (blkK [0, 7] 0 K) = l_law_BackupCuts_0 va vl out (.int .i64 ((i + 1 : Nat) : Int)) H2 (blkK [0, 7] 0 K) := fun hn K => by
    by_cases h200 : 200 ≤ (c.toNat : Int)
    · have h6 : ¬ (ls.length : Int) < 600 := fun h => hn ⟨h200, h⟩
      rw [r_law_BackupCuts_0, Int.natCast_add]
      simp (disch := first | with_reducible rfl | assumption | omega | rfl | (simp only [go_sem]; first | done | omega)) only [go_sem, ↓reduceIte, reduceCtorEq, Nat.reduceEqDiff, Nat.reduceAdd, Nat.reduceSub, Nat.reduceMul, Nat.reduceDiv, Nat.reduceMod, Nat.reduceLeDiff, Nat.reduceLT, Nat.reduceBEq, Int.reduceEq, Int.reduceBEq, Int.reduceBNe, Int.reduceLT, Int.reduceLE, Int.reduceAdd, Int.reduceSub, Int.reduceNeg, Int.reduceToNat, Int.reducePow, Nat.reducePow, Int.reduceMul, Int.reduceDiv, ↓s_law_BackupCuts_b0, hlen, hlt, hlo, q1, ic, cc, x_uint8_int, hw, q2, i2, c2, i1, c1, w1, hH1, w2, hH2, hck, cc', h200, hlo2, h6]
    · rw [r_law_BackupCuts_0, Int.natCast_add]
      simp (disch := first | with_reducible rfl | assumption | omega | rfl | (simp only [go_sem]; first | done | omega)) only [go_sem, ↓reduceIte, reduceCtorEq, Nat.reduceEqDiff, Nat.reduceAdd, Nat.reduceSub, Nat.reduceMul, Nat.reduceDiv, Nat.reduceMod, Nat.reduceLeDiff, Nat.reduceLT, Nat.reduceBEq, Int.reduceEq, Int.reduceBEq, Int.reduceBNe, Int.reduceLT, Int.reduceLE, Int.reduceAdd, Int.reduceSub, Int.reduceNeg, Int.reduceToNat, Int.reducePow, Nat.reducePow, Int.reduceMul, Int.reduceDiv, ↓s_law_BackupCuts_b0, hlen, hlt, hlo, q1, ic, cc, x_uint8_int, hw, q2, i2, c2, i1, c1, w1, hH1, w2, hH2, hck, cc', h200]
  by_cases hn : 200 ≤ (c.toNat : Int) ∧ (ls.length : Int) < 600
  · obtain ⟨h200, h6⟩ := hn
    obtain ⟨bx, ox, _, yx, i4, k8, k9, c4, r4, f4, _⟩ := o2.set (i := ia) (by omega) (x := .slice none 0 0) (l := []) RdS.nil (fun b h => by cases h)
    rw [i1] at i4
    cases i4
    have hlx : (ls2[ia]'(by omega)).length ≤ 400 := hsz2 _ (List.getElem_mem _)
    obtain ⟨a3, n3, c3, H3, a3e, o3, s3, b3⟩ := copyB r4 (by omega)
    obtain ⟨v4, H4, a4, o4, s4, b4⟩ := (o2.still s3).app o3.sl (fun b hb1 h => by
      unfold OnlyOf at h
      have h1 := b3 b hb1
      have h2 : b < H2.n := by obtain ⟨sl, k, _⟩ := o2; exact k.blk h
      omega) (by omega)
    have hbo : ∀ b, blockOf v4 = some b → H0.n ≤ b := fun b h => by
      rcases b4 with h1 | ⟨b', h1, h2⟩
      · rw [h1] at h; exact hb b h
      · rw [h1] at h; cases h; have := s3.n; have := s2.n; omega
    refine ⟨v4, H4, _, fun K => ?_, (s2.then s3 fun b _ h => h.elim).then s4 fun b hb1 h => by unfold OnlyOf at h; have := hb b h; omega, o4, hbo, hp2.more (by omega), fun p hp => ?_, by simp; omega⟩
    · rw [r_law_BackupCuts_0, Int.natCast_add]
      simp (disch := first | with_reducible rfl | assumption | omega | rfl | (simp only [go_sem]; first | done | omega)) only [go_sem, ↓reduceIte, reduceCtorEq, Nat.reduceEqDiff, Nat.reduceAdd, Nat.reduceSub, Nat.reduceMul, Nat.reduceDiv, Nat.reduceMod, Nat.reduceLeDiff, Nat.reduceLT, Nat.reduceBEq, Int.reduceEq, Int.reduceBEq, Int.reduceBNe, Int.reduceLT, Int.reduceLE, Int.reduceAdd, Int.reduceSub, Int.reduceNeg, Int.reduceToNat, Int.reducePow, Nat.reducePow, Int.reduceMul, Int.reduceDiv, ↓s_law_BackupCuts_b0, hlen, hlt, hlo, q1, ic, cc, x_uint8_int, hw, q2, i2, c2, i1, c1, w1, hH1, w2, hH2, hck, cc', h200, hlo2, h6, c4, a3e, a4]
    · rcases List.mem_append.1 hp with hp | hp
      · exact hsz2 p hp
      · simp at hp; subst hp; exact hlx
  · exact ⟨out, H2, ls2, fin hn, s2, o2, hb, hp2, hsz2, by omega⟩

theorem l_Cuts (a l : List UInt8) (size : Nat) (va vl : Value) (H0 : AHeap) (hl : BR H0 vl l) (hl3 : l.length ≤ 300) : ∀ (m i : Nat) (_ : i + m = l.length) (H : AHeap) (out : Value) (ls : List (List UInt8)) (_ : Still H0 H) (_ : OwnS H out ls) (_ : ∀ b, blockOf out = some b → H0.n ≤ b) (_ : PcsOf a size ls) (_ : ∀ p ∈ ls, p.length ≤ 400) (_ : ls.length ≤ 600),
    ∃ out' H' ls', (∀ K : K, l_law_BackupCuts_0 va vl out (.int .i64 (i : Int)) H (blkK [0, 7] 0 K) = K .normal [(0, va), (7, out')] H') ∧ Still H0 H' ∧ OwnS H' out' ls' ∧ PcsOf a size ls' ∧ (∀ p ∈ ls', p.length ≤ 400) ∧ ls'.length ≤ 600
  | 0, i, him, H, out, ls, hs, ro, hb, hp, hsz, hll => by
    have hlt : ¬ (i : Int) < (l.length : Int) := by omega
    have hlen := (hl.still hs).1.lenS
    refine ⟨out, H, ls, fun K => ?_, hs, ro, hp, hsz, hll⟩
    rw [r_law_BackupCuts_0]
    simp (disch := first | with_reducible rfl | assumption | omega | rfl | (simp only [go_sem]; first | done | omega)) only [go_sem, ↓reduceIte, reduceCtorEq, Nat.reduceEqDiff, Nat.reduceAdd, Nat.reduceSub, Nat.reduceMul, Nat.reduceDiv, Nat.reduceMod, Nat.reduceLeDiff, Nat.reduceLT, Nat.reduceBEq, Int.reduceEq, Int.reduceBEq, Int.reduceBNe, Int.reduceLT, Int.reduceLE, Int.reduceAdd, Int.reduceSub, Int.reduceNeg, Int.reduceToNat, Int.reducePow, Nat.reducePow, Int.reduceMul, Int.reduceDiv, ↓s_law_BackupCuts_b0, hlen, hlt]
  | m + 1, i, him, H, out, ls, hs, ro, hb, hp, hsz, hll => by
    obtain ⟨out1, H1, ls1, e1, s1, o1, b1, p1, z1, n1⟩ := r_Cuts a l size va vl H0 hl hl3 i (by omega) H out ls hs ro hb hp hsz hll
    obtain ⟨out2, H2, ls2, e2, s2, o2, p2, z2, n2⟩ := l_Cuts a l size va vl H0 hl hl3 m (i + 1) (by omega) H1 out1 ls1 s1 o1 b1 p1 z1 n1
    exact ⟨out2, H2, ls2, fun K => (e1 K).trans (e2 K), s2, o2, p2, z2, n2⟩

theorem q_BackupCuts (a l : List UInt8) (va vl : Value) (n : Int) (H : AHeap) (ha : BR H va a) (hl : BR H vl l) : ∃ H', CC F.law_BackupCuts [va, .int .i64 n, vl] H = some (.bool true, H') := by
  have hla := ha.1.lenS
  have hll := hl.1.lenS
  by_cases h1 : 300 < (a.length : Int)
  · refine any_of (H1 := H) (d_law_BackupCuts _ _ _ H ?_)
    simp (disch := first | with_reducible rfl | assumption | omega | rfl | (simp only [go_sem]; first | done | omega)) only [go_sem, ↓reduceIte, reduceCtorEq, Nat.reduceEqDiff, Nat.reduceAdd, Nat.reduceSub, Nat.reduceMul, Nat.reduceDiv, Nat.reduceMod, Nat.reduceLeDiff, Nat.reduceLT, Nat.reduceBEq, Int.reduceEq, Int.reduceBEq, Int.reduceBNe, Int.reduceLT, Int.reduceLE, Int.reduceAdd, Int.reduceSub, Int.reduceNeg, Int.reduceToNat, Int.reducePow, Nat.reducePow, Int.reduceMul, Int.reduceDiv, ↓s_law_BackupCuts, hla, h1]
  by_cases h2 : 300 < (l.length : Int)
  · refine any_of (H1 := H) (d_law_BackupCuts _ _ _ H ?_)
    simp (disch := first | with_reducible rfl | assumption | omega | rfl | (simp only [go_sem]; first | done | omega)) only [go_sem, ↓reduceIte, reduceCtorEq, Nat.reduceEqDiff, Nat.reduceAdd, Nat.reduceSub, Nat.reduceMul, Nat.reduceDiv, Nat.reduceMod, Nat.reduceLeDiff, Nat.reduceLT, Nat.reduceBEq, Int.reduceEq, Int.reduceBEq, Int.reduceBNe, Int.reduceLT, Int.reduceLE, Int.reduceAdd, Int.reduceSub, Int.reduceNeg, Int.reduceToNat, Int.reducePow, Nat.reducePow, Int.reduceMul, Int.reduceDiv, ↓s_law_BackupCuts, hla, h1, hll, h2]
  by_cases h3 : n < 1
  · have hq := q_cuts_arg va n H (.inl h3)
    refine any_of (H1 := H) (d_law_BackupCuts _ _ _ H ?_)
    simp (disch := first | with_reducible rfl | assumption | omega | rfl | (simp only [go_sem]; first | done | omega)) only [go_sem, ↓reduceIte, reduceCtorEq, Nat.reduceEqDiff, Nat.reduceAdd, Nat.reduceSub, Nat.reduceMul, Nat.reduceDiv, Nat.reduceMod, Nat.reduceLeDiff, Nat.reduceLT, Nat.reduceBEq, Int.reduceEq, Int.reduceBEq, Int.reduceBNe, Int.reduceLT, Int.reduceLE, Int.reduceAdd, Int.reduceSub, Int.reduceNeg, Int.reduceToNat, Int.reducePow, Nat.reducePow, Int.reduceMul, Int.reduceDiv, ↓s_law_BackupCuts, hla, h1, hll, h2, h3, enterK_eq hq]
  by_cases h4 : 65536 < n
  · have hq := q_cuts_arg va n H (.inr h4)
    refine any_of (H1 := H) (d_law_BackupCuts _ _ _ H ?_)
    simp (disch := first | with_reducible rfl | assumption | omega | rfl | (simp only [go_sem]; first | done | omega)) only [go_sem, ↓reduceIte, reduceCtorEq, Nat.reduceEqDiff, Nat.reduceAdd, Nat.reduceSub, Nat.reduceMul, Nat.reduceDiv, Nat.reduceMod, Nat.reduceLeDiff, Nat.reduceLT, Nat.reduceBEq, Int.reduceEq, Int.reduceBEq, Int.reduceBNe, Int.reduceLT, Int.reduceLE, Int.reduceAdd, Int.reduceSub, Int.reduceNeg, Int.reduceToNat, Int.reducePow, Nat.reducePow, Int.reduceMul, Int.reduceDiv, ↓s_law_BackupCuts, hla, h1, hll, h2, h3, h4, enterK_eq hq]
  obtain ⟨k, rfl⟩ : ∃ k : Nat, n = k := ⟨n.toNat, by omega⟩
  have hk1 : 1 ≤ k := by omega
  have hk2 : k ≤ 65536 := by omega
  have hnp : nP a k ≤ 300 := by
    unfold nP
    have : (a.length + k - 1) / k ≤ 300 := by
      by_cases h0 : a.length = 0
      · rw [h0, Nat.div_eq_of_lt (by omega)]; omega
      · refine Nat.le_trans (Nat.div_le_of_le_mul (n := a.length) ?_) (by omega)
        have e1 : k * a.length = (k - 1) * a.length + a.length := by
          obtain ⟨j, rfl⟩ : ∃ j, k = j + 1 := ⟨k - 1, by omega⟩
          rw [Nat.add_mul]; simp
        have e2 : (k - 1) * 1 ≤ (k - 1) * a.length := Nat.mul_le_mul_left _ (by omega)
        omega
    omega
  obtain ⟨v1, H1, m1, o1, s1, b1⟩ := q_pieces a k va H ha (by omega) hk1 hk2 (by omega)
  obtain ⟨a2, n2, c2, H2, m2, o2, s2, b2⟩ := copyB (ha.still s1) (by omega)
  have ha2 := (ha.still s1).still s2
  have hq := q_cuts a (.slice a2 n2 c2) v1 k H2 o2.sl hk1 hk2 (by omega) (by omega) (o1.still s2).rds
  have st1 := BR.str o2.sl
  have st2 := BR.str ha2
  have hsz : ∀ p ∈ pcsL a k, p.length ≤ 400 := fun p hp => by
    obtain ⟨i, hi, rfl⟩ := mem_pcsTo.1 hp
    simp [pieceL, be_length, chunkL]
    omega
  obtain ⟨v3, H3, ls3, e3, s3, o3, p3, z3, n3⟩ := l_Cuts a l k va vl H hl (by omega) l.length 0 (by omega) H2 v1 (pcsL a k) (s1.trans s2) (o1.still s2) b1 PcsOf.self hsz (by rw [pcsL_length]; omega)
  · have e3 : ∀ K : K, l_law_BackupCuts_0 va vl v1 (.int .i64 0) H2 (blkK [0, 7] 0 K) = K .normal [(0, va), (7, v3)] H3 := e3
    have hsum : sumP ls3 ≤ 0 + (ls3.length : Int) * (400 : Nat) := (sum_le (M := 400) ls3 0 z3).1
    have hj := q_joins ls3 v3 va a 0 H3 o3.rds (ha.still s3) (by omega) (fun p hp => by have := z3 p hp; omega) (by
      have : (ls3.length : Int) * (400 : Nat) ≤ 600 * 400 := by omega
      omega)
    rw [jn_pcs hk1 (by omega) p3, decide_eq_true rfl] at hj
    refine any_of (H1 := H3) (d_law_BackupCuts _ _ _ H ?_)
    simp (disch := first | with_reducible rfl | assumption | omega | rfl | (simp only [go_sem]; first | done | omega)) only [go_sem, ↓reduceIte, reduceCtorEq, Nat.reduceEqDiff, Nat.reduceAdd, Nat.reduceSub, Nat.reduceMul, Nat.reduceDiv, Nat.reduceMod, Nat.reduceLeDiff, Nat.reduceLT, Nat.reduceBEq, Int.reduceEq, Int.reduceBEq, Int.reduceBNe, Int.reduceLT, Int.reduceLE, Int.reduceAdd, Int.reduceSub, Int.reduceNeg, Int.reduceToNat, Int.reducePow, Nat.reducePow, Int.reduceMul, Int.reduceDiv, ↓s_law_BackupCuts, hla, h1, hll, h2, h3, h4, enterK_eq m1, m2, enterK_eq hq, st1, st2, bl_mk, e3, enterK_eq hj]

theorem run_BackupCuts (W : World) (v : Value) (a : List UInt8) (ra : RdS EB T.uint8 (absHeap2 W) v a) (_ : ∀ x, x ∈ a → True) (_ : a.length ≤ maxLen) (n : Int) (_ : (Lit.int .i64 n).wf = true) (w : Value) (l : List UInt8) (rl : RdS EB T.uint8 (absHeap2 W) w l) (_ : ∀ x, x ∈ l → True) (_ : l.length ≤ maxLen) :
    ∃ k H', dCall Try.prog prims1 hints k F.law_BackupCuts [v, .int .i64 n, w] (absHeap2 W) = some (.bool true, H') := by
  obtain ⟨H', h⟩ := q_BackupCuts a l v w n (absHeap2 W) ra rl
  obtain ⟨k, h⟩ := D_run h
  exact ⟨k, _, h⟩
theorem decB {W : World} {H : Type} {enc : TypeId × Value → H} (_ : 0 < W.heap.size) {cs : List Value} {n : Nat} {y : DataW H × List MemPlace} (h : DataW.trod enc Try.prog W 0 (fun _ => true) true n T.uint8 cs = some y) (hl : cs.length = EB.w) : ∃ a, cs.map (conv2 W.heap.size) = EB.enc a ∧ True := dec_u8 Try.underlying5 h hl

end Go.Proofs.Ytehnchfnhbmkdaa

/-
  The seat's functions as terms over the engine's combinators (a program of ours printed it).
  Conditions: none. By an AI agent.
-/
set_option linter.unusedVariables false
namespace Go.Proofs.Ytehnchfnhbmkdaa
open Go Eng

/-! ticketline.ticketlinelaw48.BackupJoins -/

noncomputable def s_law_BackupJoins (mg : GT) (mc : CT) (ms : ST) (P : Program) (C : CallF) (L0 : Value → Value → Value → Value → Value → Value → Value → AHeap → K → Res) (a0 : Value) (a1 : Value) (a2 : Value) (a3 : Value) (a4 : Value) (a5 : Value) (H : AHeap) (K0 : K) : Res :=
bareK (lenS a0) H fun t20 h1 =>
bareK (xbin P .gtr T.int (.tmp 20) (.const (.int .i64 8)) t20 (.int .i64 8)) h1 fun t21 h2 =>
mg t21 false (fun o1 => o1 a1 h2) h2 fun t23 h3 =>
mg t21 false (fun o2 => bareK (lenS t23) h3 o2) h3 fun t24 h4 =>
mg t21 false (fun o3 => bareK (xbin P .gtr T.int (.tmp 24) (.const (.int .i64 100)) t24 (.int .i64 100)) h4 o3) h4 fun t25 h5 =>
pickK t21 (.bool true) t25 fun t26 =>
mg t26 false (fun o4 => o4 a2 h5) h5 fun t28 h6 =>
mg t26 false (fun o5 => bareK (xbin P .lss T.uint8 (.tmp 28) (.const (.int .u8 1)) t28 (.int .u8 1)) h6 o5) h6 fun t29 h7 =>
pickK t26 (.bool true) t29 fun t30 =>
mc t30 (fun k6 => enterK C F.law_known [] h7 fun t31 h8 =>
k6 .ret [(12, t31)] h8) (fun k6 =>
k6 .normal [(0, a0), (1, a1), (2, a2), (3, a3), (4, a4), (5, a5)] h7) (seqK (fun tT h9 =>
ms (fun k7 =>
L0 (get tT 0) (get tT 1) (get tT 2) (get tT 3) (get tT 4) (get tT 5) (.int .i64 0) h9 (blkK [0, 1, 2, 3, 4, 5] 0 k7)) (seqK (fun tT_1 h10 =>
enterK C F.law_joined [(get tT_1 0)] h10 fun t47 h11 =>
bareK (xextract t47 0) h11 fun t48 h12 =>
bareK (xextract t47 1) h12 fun t49 h13 =>
enterK C F.law_joins [(get tT_1 0), t48, t49] h13 fun t53 h14 =>
bareK (xun P .not t53) h14 fun t54 h15 =>
mc t54 (fun k8 => k8 .ret [(12, (.bool false))] h15) (fun k8 =>
k8 .normal [(1, (get tT_1 1)), (2, (get tT_1 2)), (3, (get tT_1 3)), (4, (get tT_1 4)), (5, (get tT_1 5))] h15) (seqK (fun tT_2 h16 =>
bothK (xconv P T.uint8 T.int (get tT_2 2) h16) fun t57 h17 =>
enterK C F.law_pieces [(get tT_2 1), t57] h17 fun t58 h18 =>
bothK (xconv P T.uint8 T.int (get tT_2 3) h18) fun t60 h19 =>
bareK (lenS t58) h19 fun t62 h20 =>
bareK (xbin P .rem T.int (.tmp 60) (.tmp 62) t60 t62) h20 fun t63 h21 =>
bareK (slS T.sl_uint8 1 t58 none (some t63) none h21) h21 fun t66 h22 =>
bothK (app T.sl_uint8 1 24 (.slice none 0 0) (srcS 1 t66 h22) h22) fun t67 h23 =>
bareK (xbin P .add T.int (.tmp 69) (.const (.int .i64 1)) t63 (.int .i64 1)) h23 fun t70 h24 =>
bareK (slS T.sl_uint8 1 t58 (some t70) none none h24) h24 fun t71 h25 =>
bothK (app T.sl_uint8 1 24 t67 (srcS 1 t71 h25) h25) fun t72 h26 =>
checkK (okV (some true) none h22 h23 h23 h23 && (okV (some true) none h22 h23 h23 h23 && (okV (some true) none h22 h23 h23 h24 && (okV (some true) (blockOf t58) h22 h23 h24 h25 && true)))) <|
enterK C F.law_joined [t72] h26 fun t75 h27 =>
bareK (xextract t75 0) h27 fun t76 h28 =>
bareK (xextract t75 1) h28 fun t77 h29 =>
enterK C F.law_joins [t72, t76, t77] h29 fun t81 h30 =>
bareK (xun P .not t81) h30 fun t82 h31 =>
mc t82 (fun k9 => k9 .ret [(12, (.bool false))] h31) (fun k9 =>
k9 .normal [(4, (get tT_2 4)), (5, (get tT_2 5)), (16, t58), (17, t63)] h31) (seqK (fun tT_3 h32 =>
bareK (ixS 1 (get tT_3 16) (get tT_3 17)) h32 fun t87 h33 =>
bareK (ld1 h33 t87) h33 fun t88 h34 =>
bothK (app T.uint8 1 1 (.slice none 0 0) (srcS 1 t88 h34) h34) fun t89 h35 =>
bareK (ixS 1 (get tT_3 16) (get tT_3 17)) h35 fun t90 h36 =>
quietK (st1 h36 t90 t89) fun _ h37 =>
bareK (ixS 1 (get tT_3 16) (get tT_3 17)) h37 fun t93 h38 =>
bareK (ld1 h38 t93) h38 fun t94 h39 =>
bothK (xconv P T.uint8 T.int (get tT_3 4) h39) fun t96 h40 =>
bareK (ixS 1 (get tT_3 16) (get tT_3 17)) h40 fun t99 h41 =>
bareK (ld1 h41 t99) h41 fun t100 h42 =>
bareK (lenS t100) h42 fun t101 h43 =>
bareK (xbin P .rem T.int (.tmp 96) (.tmp 101) t96 t101) h43 fun t102 h44 =>
bareK (ixS 1 t94 t102) h44 fun t104 h45 =>
quietK (st1 h45 t104 (get tT_3 5)) fun _ h46 =>
checkK true <|
enterK C F.law_joined [(get tT_3 16)] h46 fun t107 h47 =>
bareK (xextract t107 0) h47 fun t108 h48 =>
bareK (xextract t107 1) h48 fun t109 h49 =>
enterK C F.law_joins [(get tT_3 16), t108, t109] h49 fun t113 h50 =>
mg t113 true (fun o10 => enterK C F.law_known [] h50 o10) h50 fun t115 h51 =>
pickK t113 t115 (.bool false) fun t116 =>
K0 .ret [(12, t116)] h51) K0)) K0)) K0)) K0)

noncomputable def s_law_BackupJoins_b0 (mg : GT) (mc : CT) (ms : ST) (P : Program) (C : CallF) (L0 : Value → Value → Value → Value → Value → Value → Value → AHeap → K → Res) (v0 : Value) (v1 : Value) (v2 : Value) (v3 : Value) (v4 : Value) (v5 : Value) (v13 : Value) (H : AHeap) (k : K) : Res :=
bareK (lenS v0) H fun t34 h10 =>
bareK (xbin P .lss T.int (.tmp 32) (.tmp 34) v13 t34) h10 fun t35 h11 =>
mc t35 (fun k8 => k8 .normal [(0, v0), (1, v1), (2, v2), (3, v3), (4, v4), (5, v5), (13, v13)] h11) (fun k8 =>
k8 (.exit 0) [(35, t35), (34, t34), (33, v0), (32, v13), (0, v0), (1, v1), (2, v2), (3, v3), (4, v4), (5, v5), (13, v13)] h11) (seqK (fun tT h12 =>
ms (fun k9 =>
bareK (ixS 1 (get tT 0) (get tT 13)) h12 fun t40 h13 =>
bareK (ld1 h13 t40) h13 fun t41 h14 =>
bareK (lenS t41) h14 fun t42 h15 =>
bareK (xbin P .gtr T.int (.tmp 42) (.const (.int .i64 40)) t42 (.int .i64 40)) h15 fun t43 h16 =>
mc t43 (fun k10 => enterK C F.law_known [] h16 fun t44 h17 =>
k10 .ret [(12, t44)] h17) (fun k10 =>
k10 .normal [(0, (get tT 0)), (1, (get tT 1)), (2, (get tT 2)), (3, (get tT 3)), (4, (get tT 4)), (5, (get tT 5)), (13, (get tT 13))] h16) (blkK [0, 1, 2, 3, 4, 5, 13] 1 k9)) (seqK (fun tT_1 h18 =>
bareK (xbin P .add T.int (.tmp 36) (.const (.int .i64 1)) (get tT_1 13) (.int .i64 1)) h18 fun t37 h19 =>
k .normal [(0, (get tT_1 0)), (1, (get tT_1 1)), (2, (get tT_1 2)), (3, (get tT_1 3)), (4, (get tT_1 4)), (5, (get tT_1 5)), (13, t37)] h19) (afterK [0, 1, 2, 3, 4, 5, 13] k))) (afterK [0, 1, 2, 3, 4, 5, 13] k))

theorem s_law_BackupJoins_eq (M : CombL) (C : CallF) (LP : LoopH) (a0 : Value) (a1 : Value) (a2 : Value) (a3 : Value) (a4 : Value) (a5 : Value) (H : AHeap) : dBodyL M Try.prog hints C LP F.law_BackupJoins [a0, a1, a2, a3, a4, a5] H = s_law_BackupJoins M.b.g M.c M.s Try.prog C (fun v0 v1 v2 v3 v4 v5 v13 H k => loopL M Try.prog hints C LP F.law_BackupJoins 0 [(0, v0), (1, v1), (2, v2), (3, v3), (4, v4), (5, v5), (13, v13)] H k) a0 a1 a2 a3 a4 a5 H (endK Try.prog [.tmp 12]) := by kernel_rfl

theorem s_law_BackupJoins_b0_eq (M : CombL) (C : CallF) (LP : LoopH) (v0 : Value) (v1 : Value) (v2 : Value) (v3 : Value) (v4 : Value) (v5 : Value) (v13 : Value) (H : AHeap) (k : K) : bodyL M Try.prog hints C LP F.law_BackupJoins 0 [(0, v0), (1, v1), (2, v2), (3, v3), (4, v4), (5, v5), (13, v13)] H (afterK [0, 1, 2, 3, 4, 5, 13] k) = s_law_BackupJoins_b0 M.b.g M.c M.s Try.prog C (fun v0 v1 v2 v3 v4 v5 v13 H k => loopL M Try.prog hints C LP F.law_BackupJoins 0 [(0, v0), (1, v1), (2, v2), (3, v3), (4, v4), (5, v5), (13, v13)] H k) v0 v1 v2 v3 v4 v5 v13 H k := by kernel_rfl

end Go.Proofs.Ytehnchfnhbmkdaa

/-
  The equations of the seat's functions over calls in the limit (a program of ours printed it).
  Conditions: none. By an AI agent.
-/
set_option linter.unusedVariables false
namespace Go.Proofs.Ytehnchfnhbmkdaa
open Go Eng



noncomputable def l_law_BackupJoins_0 (v0 : Value) (v1 : Value) (v2 : Value) (v3 : Value) (v4 : Value) (v5 : Value) (v13 : Value) (H : AHeap) (k : K) : Res := loopL stdL Try.prog hints CC limLP F.law_BackupJoins 0 [(0, v0), (1, v1), (2, v2), (3, v3), (4, v4), (5, v5), (13, v13)] H k
theorem r_law_BackupJoins_0 (v0 : Value) (v1 : Value) (v2 : Value) (v3 : Value) (v4 : Value) (v5 : Value) (v13 : Value) (H : AHeap) (k : K) : l_law_BackupJoins_0 v0 v1 v2 v3 v4 v5 v13 H k = s_law_BackupJoins_b0 guardK condL shareL Try.prog CC l_law_BackupJoins_0 v0 v1 v2 v3 v4 v5 v13 H (seqK (fun T H => l_law_BackupJoins_0 (get T 0) (get T 1) (get T 2) (get T 3) (get T 4) (get T 5) (get T 13) H k) k) := ((loopL_next (by kernel_rfl) rfl H k).trans (s_law_BackupJoins_b0_eq stdL CC limLP v0 v1 v2 v3 v4 v5 v13 H _)).trans (by kernel_rfl)
theorem d_law_BackupJoins (a0 : Value) (a1 : Value) (a2 : Value) (a3 : Value) (a4 : Value) (a5 : Value) (H : AHeap) {r : Value × AHeap} (h : s_law_BackupJoins guardK condL shareL Try.prog CC l_law_BackupJoins_0 a0 a1 a2 a3 a4 a5 H (endK Try.prog [.tmp 12]) = some r) : CC F.law_BackupJoins [a0, a1, a2, a3, a4, a5] H = some (tidy H r) := D_body (by kernel_rfl) ((s_law_BackupJoins_eq stdL CC limLP a0 a1 a2 a3 a4 a5 H).trans (Eq.trans (show s_law_BackupJoins stdL.b.g stdL.c stdL.s Try.prog CC (fun v0 v1 v2 v3 v4 v5 v13 H k => loopL stdL Try.prog hints CC limLP F.law_BackupJoins 0 [(0, v0), (1, v1), (2, v2), (3, v3), (4, v4), (5, v5), (13, v13)] H k) a0 a1 a2 a3 a4 a5 H (endK Try.prog [.tmp 12]) = s_law_BackupJoins guardK condL shareL Try.prog CC l_law_BackupJoins_0 a0 a1 a2 a3 a4 a5 H (endK Try.prog [.tmp 12]) by kernel_rfl) h))

end Go.Proofs.Ytehnchfnhbmkdaa

/-
  Chapter 48: BackupJoins.
  Conditions: none. By an AI agent.
-/
set_option maxRecDepth 10000
set_option linter.unusedSimpArgs false
set_option linter.unusedVariables false
namespace Go.Proofs.Ytehnchfnhbmkdaa
open Go Eng

theorem l_BJ0 (ls : List (List UInt8)) (v a1 a2 a3 a4 a5 : Value) (H : AHeap) (hr : Rds H v ls) (hl : ls.length ≤ 1000000000) : ∀ (t : List (List UInt8)) (i : Nat), ls.drop i = t →
    ((∀ p ∈ t, p.length ≤ 40) → ∀ K : K, l_law_BackupJoins_0 v a1 a2 a3 a4 a5 (.int .i64 (i : Int)) H (blkK [0, 1, 2, 3, 4, 5] 0 K) = K .normal [(0, v), (1, a1), (2, a2), (3, a3), (4, a4), (5, a5)] H) ∧
    (¬ (∀ p ∈ t, p.length ≤ 40) → ∀ K : K, l_law_BackupJoins_0 v a1 a2 a3 a4 a5 (.int .i64 (i : Int)) H (blkK [0, 1, 2, 3, 4, 5] 0 K) = K .ret [(12, .bool true)] H)
  | [], i, hx => by
    have h : ls.length ≤ i := List.drop_eq_nil_iff.1 hx
    have hlt : ¬ (i : Int) < (ls.length : Int) := by omega
    have hlen := hr.lenS
    exact ⟨fun _ K => by rw [r_law_BackupJoins_0]; simp (disch := first | with_reducible rfl | assumption | omega | rfl | (simp only [go_sem]; first | done | omega)) only [go_sem, ↓reduceIte, reduceCtorEq, Nat.reduceEqDiff, Nat.reduceAdd, Nat.reduceSub, Nat.reduceMul, Nat.reduceDiv, Nat.reduceMod, Nat.reduceLeDiff, Nat.reduceLT, Nat.reduceBEq, Int.reduceEq, Int.reduceBEq, Int.reduceBNe, Int.reduceLT, Int.reduceLE, Int.reduceAdd, Int.reduceSub, Int.reduceNeg, Int.reduceToNat, Int.reducePow, Nat.reducePow, Int.reduceMul, Int.reduceDiv, ↓s_law_BackupJoins_b0, hlen, hlt], fun h => by simp at h⟩
  | p :: t, i, hx => by
    obtain ⟨h, hxa, hx'⟩ := drop_cons hx
    have hlt : (i : Int) < (ls.length : Int) := by omega
    have hlen := hr.lenS
    obtain ⟨b1, o1, y1, i1, c1, r1, _⟩ := hr.at h
    rw [hxa] at r1
    have hp := r1.1.lenS
    obtain ⟨k1, k2⟩ := l_BJ0 ls v a1 a2 a3 a4 a5 H hr hl t (i + 1) hx'
    by_cases hs : 40 < p.length
    · have hs' : 40 < (p.length : Int) := by omega
      refine ⟨fun h2 => absurd (h2 p (by simp)) (by omega), fun _ K => ?_⟩
      rw [r_law_BackupJoins_0]
      simp (disch := first | with_reducible rfl | assumption | omega | rfl | (simp only [go_sem]; first | done | omega)) only [go_sem, ↓reduceIte, reduceCtorEq, Nat.reduceEqDiff, Nat.reduceAdd, Nat.reduceSub, Nat.reduceMul, Nat.reduceDiv, Nat.reduceMod, Nat.reduceLeDiff, Nat.reduceLT, Nat.reduceBEq, Int.reduceEq, Int.reduceBEq, Int.reduceBNe, Int.reduceLT, Int.reduceLE, Int.reduceAdd, Int.reduceSub, Int.reduceNeg, Int.reduceToNat, Int.reducePow, Nat.reducePow, Int.reduceMul, Int.reduceDiv, ↓s_law_BackupJoins_b0, hlen, hlt, i1, c1, hp, hs']
    · have hs' : ¬ 40 < (p.length : Int) := by omega
      refine ⟨fun h2 K => ?_, fun h2 K => ?_⟩
      · have := k1 (fun q hq => h2 q (by simp [hq])) K
        rw [r_law_BackupJoins_0]
        simp (disch := first | with_reducible rfl | assumption | omega | rfl | (simp only [go_sem]; first | done | omega)) only [go_sem, ↓reduceIte, reduceCtorEq, Nat.reduceEqDiff, Nat.reduceAdd, Nat.reduceSub, Nat.reduceMul, Nat.reduceDiv, Nat.reduceMod, Nat.reduceLeDiff, Nat.reduceLT, Nat.reduceBEq, Int.reduceEq, Int.reduceBEq, Int.reduceBNe, Int.reduceLT, Int.reduceLE, Int.reduceAdd, Int.reduceSub, Int.reduceNeg, Int.reduceToNat, Int.reducePow, Nat.reducePow, Int.reduceMul, Int.reduceDiv, ↓s_law_BackupJoins_b0, hlen, hlt, i1, c1, hp, hs']
        exact this
      · have := k2 (fun h3 => h2 fun q hq => by
          rcases List.mem_cons.1 hq with rfl | hq
          · omega
          · exact h3 q hq) K
        rw [r_law_BackupJoins_0]
        simp (disch := first | with_reducible rfl | assumption | omega | rfl | (simp only [go_sem]; first | done | omega)) only [go_sem, ↓reduceIte, reduceCtorEq, Nat.reduceEqDiff, Nat.reduceAdd, Nat.reduceSub, Nat.reduceMul, Nat.reduceDiv, Nat.reduceMod, Nat.reduceLeDiff, Nat.reduceLT, Nat.reduceBEq, Int.reduceEq, Int.reduceBEq, Int.reduceBNe, Int.reduceLT, Int.reduceLE, Int.reduceAdd, Int.reduceSub, Int.reduceNeg, Int.reduceToNat, Int.reducePow, Nat.reducePow, Int.reduceMul, Int.reduceDiv, ↓s_law_BackupJoins_b0, hlen, hlt, i1, c1, hp, hs']
        exact this

theorem Els.take {H : AHeap} : ∀ {sl : List Sl} {ls : List (List UInt8)} (k : Nat), Els H sl ls → Els H (sl.take k) (ls.take k)
  | _, _, 0, _ => by simp [Els]
  | [], [], _ + 1, _ => trivial
  | _ :: _, _ :: _, k + 1, e => ⟨e.1, Els.take k e.2⟩
  | [], _ :: _, _ + 1, e => e.elim
  | _ :: _, [], _ + 1, e => e.elim
theorem Els.drop {H : AHeap} : ∀ {sl : List Sl} {ls : List (List UInt8)} (k : Nat), Els H sl ls → Els H (sl.drop k) (ls.drop k)
  | _, _, 0, e => by simpa using e
  | [], [], _ + 1, _ => trivial
  | _ :: _, _ :: _, k + 1, e => Els.drop k e.2
  | [], _ :: _, _ + 1, e => e.elim
  | _ :: _, [], _ + 1, e => e.elim

/-- All but one. -/
theorem OwnS.cutOut {H : AHeap} {v : Value} {ls : List (List UInt8)} (r : OwnS H v ls) {k : Nat} (hk : k < ls.length) (hl : ls.length ≤ 1000000) :
    ∃ w1 w2 v1 v2 H1 H2, slS T.sl_uint8 1 v none (some (.int .i64 (k : Int))) none H = some w1 ∧ Eng.app T.sl_uint8 1 24 (.slice none 0 0) (srcS 1 w1 H) H = some (v1, H1) ∧
      slS T.sl_uint8 1 v (some (.int .i64 ((k + 1 : Nat) : Int))) none none H1 = some w2 ∧ Eng.app T.sl_uint8 1 24 v1 (srcS 1 w2 H1) H1 = some (v2, H2) ∧ Rds H2 v2 (ls.take k ++ ls.drop (k + 1)) ∧ Still H H1 ∧ Still H H2 := by
  obtain ⟨sl, h1, h2, h3⟩ := r
  have hll : sl.length = ls.length := h2.len
  obtain ⟨w1, a1, r1, _⟩ := h1.sl.to (sz := 1) rfl (j := k) (q := .i64) (by omega)
  have hnil : Own ESl H T.sl_uint8 (.slice none 0 0) [] := .inl ⟨rfl, rfl⟩
  obtain ⟨v1, H1, a2, o1, f1, b1⟩ := hnil.appA (sl.take k) (sz := 1) (bytes := 24) rfl (by simp; omega) (by simp; omega) (r1.1.src (sz := 1) rfl)
  have s1 : Still H H1 := f1.mono (fun b _ h => by unfold OnlyOf at h; cases h)
  rw [List.nil_append] at o1
  obtain ⟨w2, a3, r2, _⟩ := (h1.still s1).sl.from (sz := 1) rfl (i := k + 1) (q := .i64) (by omega)
  obtain ⟨v2, H2, a4, o2, f2, b2⟩ := o1.appA (sl.drop (k + 1)) (sz := 1) (bytes := 24) rfl (by simp; omega) (by simp; omega) (r2.1.src (sz := 1) rfl)
  have s2 : Still H H2 := s1.then f2 fun b hb h => by
    unfold OnlyOf at h
    rcases b1 with b1 | b1
    · rw [b1] at h; cases h
    · rw [b1] at h; cases h; omega
  refine ⟨w1, w2, v1, v2, H1, H2, a1, a2, a3, a4, ⟨_, o2.sl, Els.app (Els.take k (h2.still s2)) (Els.drop (k + 1) (h2.still s2))⟩, s1, s2⟩

/-- One byte of a copy of an element. -/
theorem OwnS.poke {H : AHeap} {v : Value} {ls : List (List UInt8)} (r : OwnS H v ls) {k : Nat} (hk : k < ls.length) {j : Nat} (hj : j < ls[k].length) (hl : ls[k].length ≤ 1000000) (ch : UInt8) :
    ∃ b o y a n c H1 H2 H3 kk bc oc kc, ixS 1 v (.int .i64 (k : Int)) = some (.pointer (some ⟨b, o, none⟩)) ∧ cellB (H.f b) o = some y ∧ Eng.app T.uint8 1 1 (.slice none 0 0) (srcS 1 y H) H = some (.slice a n c, H1) ∧
      wr1 (H1.f b) o (.slice a n c) = some kk ∧ H1.set b kk = H2 ∧ cellB (H2.f b) o = some (.slice a n c) ∧ n = ls[k].length ∧
      ixS 1 (.slice a n c) (.int .i64 (j : Int)) = some (.pointer (some ⟨bc, oc, none⟩)) ∧ wr1 (H2.f bc) oc (.int .u8 (ch.toNat : Int)) = some kc ∧ H2.set bc kc = H3 ∧ Rds H3 v (ls.set k (ls[k].set j ch)) := by
  obtain ⟨sl, h1, h2, h3⟩ := r
  have hll : sl.length = ls.length := h2.len
  have hk' : k < sl.length := by omega
  obtain ⟨b, o, _, i1, _, hb, c1, _⟩ := Own.set1 Sl.v rfl ESl_cells (fun _ => rfl) h1 hk' sl[k]
  have ry : BR H sl[k].v ls[k] := h2.at hk' hk
  obtain ⟨a, n, c, H1, a1, o1, s1, b1⟩ := copyB ry (by omega)
  have hn : n = ls[k].length := by
    have := o1.rd.lenS
    simp only [lenS] at this
    injection this with this
    injection this with _ this
    omega
  obtain ⟨b', o', kk, i2, k2, hb2, _, w2, o2, f2⟩ := Own.set1 Sl.v rfl ESl_cells (fun _ => rfl) (h1.still s1) hk' ⟨a, n, c⟩
  rw [i1] at i2
  cases i2
  obtain ⟨H2, hH2⟩ : ∃ H2, H1.set b kk = H2 := ⟨_, rfl⟩
  rw [hH2] at o2 f2
  have o3 : Own EB H2 T.uint8 (.slice a n c) ls[k] := o1.keep f2 fun x hx h => by
    unfold OnlyOf at h
    rw [k2] at h; cases h
    have := b1 _ hx; omega
  obtain ⟨b3, o3', _, i3, _, _, c3, _⟩ := Own.set1 Sl.v rfl ESl_cells (fun _ => rfl) o2 (by simpa using hk') sl[k]
  rw [i1] at i3
  cases i3
  rw [List.getElem_set_self] at c3
  obtain ⟨bc, oc, kc, i4, k4, hb4, _, w4, o4, f4⟩ := Own.set1 byteCell rfl EB_cells (fun _ => rfl) o3 hj ch
  obtain ⟨H3, hH3⟩ : ∃ H3, H2.set bc kc = H3 := ⟨_, rfl⟩
  rw [hH3] at o4 f4
  have hnb : H.n ≤ bc := b1 _ k4
  have off : ∀ x, blockOf x = some b → Off (OnlyOf (.slice a n c)) x := fun x hx y hy h => by
    rw [hx] at hy; cases hy
    unfold OnlyOf at h
    rw [k4] at h; cases h
    omega
  refine ⟨b, o, sl[k].v, a, n, c, H1, H2, H3, kk, bc, oc, kc, i1, c1, a1, w2, hH2, c3, hn, i4, w4, hH3, sl.set k ⟨a, n, c⟩, (o2.keep f4 (off v k2)).sl, ?_⟩
  refine Els.set ?_ k o4.sl
  refine ((h2.still s1).keep f2 h3).keep f4 fun s hs y hy h => ?_
  have := h2.blk s hs y hy
  unfold OnlyOf at h
  rw [k4] at h; cases h
  omega

theorem q_BackupJoins (ls : List (List UInt8)) (a : List UInt8) (v va : Value) (n q x y : UInt8) (H : AHeap) (hr : Rds H v ls) (ha : BR H va a) :
    ∃ H', CC F.law_BackupJoins [v, va, .int .u8 (n.toNat : Int), .int .u8 (q.toNat : Int), .int .u8 (x.toNat : Int), .int .u8 (y.toNat : Int)] H = some (.bool true, H') := by
  have hlv := hr.lenS
  have hla := ha.1.lenS
  have un := u8_lt n
  have uq := u8_lt q
  have ux := u8_lt x
  by_cases h1 : 8 < (ls.length : Int)
  · refine any_of (H1 := H) (d_law_BackupJoins _ _ _ _ _ _ H ?_)
    simp (disch := first | with_reducible rfl | assumption | omega | rfl | (simp only [go_sem]; first | done | omega)) only [go_sem, ↓reduceIte, reduceCtorEq, Nat.reduceEqDiff, Nat.reduceAdd, Nat.reduceSub, Nat.reduceMul, Nat.reduceDiv, Nat.reduceMod, Nat.reduceLeDiff, Nat.reduceLT, Nat.reduceBEq, Int.reduceEq, Int.reduceBEq, Int.reduceBNe, Int.reduceLT, Int.reduceLE, Int.reduceAdd, Int.reduceSub, Int.reduceNeg, Int.reduceToNat, Int.reducePow, Nat.reducePow, Int.reduceMul, Int.reduceDiv, ↓s_law_BackupJoins, hlv, h1]
  by_cases h2 : 100 < (a.length : Int)
  · refine any_of (H1 := H) (d_law_BackupJoins _ _ _ _ _ _ H ?_)
    simp (disch := first | with_reducible rfl | assumption | omega | rfl | (simp only [go_sem]; first | done | omega)) only [go_sem, ↓reduceIte, reduceCtorEq, Nat.reduceEqDiff, Nat.reduceAdd, Nat.reduceSub, Nat.reduceMul, Nat.reduceDiv, Nat.reduceMod, Nat.reduceLeDiff, Nat.reduceLT, Nat.reduceBEq, Int.reduceEq, Int.reduceBEq, Int.reduceBNe, Int.reduceLT, Int.reduceLE, Int.reduceAdd, Int.reduceSub, Int.reduceNeg, Int.reduceToNat, Int.reducePow, Nat.reducePow, Int.reduceMul, Int.reduceDiv, ↓s_law_BackupJoins, hlv, h1, hla, h2]
  by_cases h3 : (n.toNat : Int) < 1
  · refine any_of (H1 := H) (d_law_BackupJoins _ _ _ _ _ _ H ?_)
    simp (disch := first | with_reducible rfl | assumption | omega | rfl | (simp only [go_sem]; first | done | omega)) only [go_sem, ↓reduceIte, reduceCtorEq, Nat.reduceEqDiff, Nat.reduceAdd, Nat.reduceSub, Nat.reduceMul, Nat.reduceDiv, Nat.reduceMod, Nat.reduceLeDiff, Nat.reduceLT, Nat.reduceBEq, Int.reduceEq, Int.reduceBEq, Int.reduceBNe, Int.reduceLT, Int.reduceLE, Int.reduceAdd, Int.reduceSub, Int.reduceNeg, Int.reduceToNat, Int.reducePow, Nat.reducePow, Int.reduceMul, Int.reduceDiv, ↓s_law_BackupJoins, hlv, h1, hla, h2, h3]
  obtain ⟨z1, z2⟩ := l_BJ0 ls v va (.int .u8 (n.toNat : Int)) (.int .u8 (q.toNat : Int)) (.int .u8 (x.toNat : Int)) (.int .u8 (y.toNat : Int)) H hr (by omega) ls 0 (by simp)
  refine (Classical.em (∀ p ∈ ls, p.length ≤ 40)).elim (fun h4 => ?_) fun h4 => ?_
  rotate_left
  · have z2 : ∀ K : K, l_law_BackupJoins_0 v va (.int .u8 (n.toNat : Int)) (.int .u8 (q.toNat : Int)) (.int .u8 (x.toNat : Int)) (.int .u8 (y.toNat : Int)) (.int .i64 0) H (blkK [0, 1, 2, 3, 4, 5] 0 K) = K .ret [(12, .bool true)] H := z2 h4
    refine any_of (H1 := H) (d_law_BackupJoins _ _ _ _ _ _ H ?_)
    simp (disch := first | with_reducible rfl | assumption | omega | rfl | (simp only [go_sem]; first | done | omega)) only [go_sem, ↓reduceIte, reduceCtorEq, Nat.reduceEqDiff, Nat.reduceAdd, Nat.reduceSub, Nat.reduceMul, Nat.reduceDiv, Nat.reduceMod, Nat.reduceLeDiff, Nat.reduceLT, Nat.reduceBEq, Int.reduceEq, Int.reduceBEq, Int.reduceBNe, Int.reduceLT, Int.reduceLE, Int.reduceAdd, Int.reduceSub, Int.reduceNeg, Int.reduceToNat, Int.reducePow, Nat.reducePow, Int.reduceMul, Int.reduceDiv, ↓s_law_BackupJoins, hlv, h1, hla, h2, h3, z2]
  have z1 : ∀ K : K, l_law_BackupJoins_0 v va (.int .u8 (n.toNat : Int)) (.int .u8 (q.toNat : Int)) (.int .u8 (x.toNat : Int)) (.int .u8 (y.toNat : Int)) (.int .i64 0) H (blkK [0, 1, 2, 3, 4, 5] 0 K) = K .normal [(0, v), (1, va), (2, .int .u8 (n.toNat : Int)), (3, .int .u8 (q.toNat : Int)), (4, .int .u8 (x.toNat : Int)), (5, .int .u8 (y.toNat : Int))] H := z1 h4
  -- the pieces as they come
  have sumS' : ∀ (l2 : List (List UInt8)) (M : Nat), (∀ p ∈ l2, p.length ≤ M) → sumP l2 ≤ 0 + (l2.length : Int) * (M : Nat) := fun l2 M h => (sum_le (M := M) l2 0 h).1
  obtain ⟨v1, H1, e1, r1, s1⟩ := q_joined ls v H hr (by omega) fun p hp => by have := h4 p hp; omega
  have j1 := q_joins ls v v1 (jn ls).1 (jn ls).2 H1 (hr.still s1) r1 (by omega) (fun p hp => by have := h4 p hp; omega) (by have := sumS' ls 40 h4; omega)
  rw [decide_eq_true rfl] at j1
  -- the pieces of a
  have hk1 : 1 ≤ n.toNat := by omega
  have hnp : nP a n.toNat ≤ 100 := by
    unfold nP
    have : (a.length + n.toNat - 1) / n.toNat ≤ 100 := by
      by_cases h0 : a.length = 0
      · rw [h0, Nat.div_eq_of_lt (by omega)]; omega
      · refine Nat.le_trans (Nat.div_le_of_le_mul (n := a.length) ?_) (by omega)
        have e1 : n.toNat * a.length = (n.toNat - 1) * a.length + a.length := by
          obtain ⟨j, hj⟩ : ∃ j, n.toNat = j + 1 := ⟨n.toNat - 1, by omega⟩
          rw [hj, Nat.add_mul]; simp
        have e2 : (n.toNat - 1) * 1 ≤ (n.toNat - 1) * a.length := Nat.mul_le_mul_left _ (by omega)
        omega
    omega
  obtain ⟨v2, H2, e2, o2, s2, b2⟩ := q_pieces a n.toNat va H1 (ha.still s1) (by omega) hk1 (by omega) (by omega)
  have hpl := pcsL_length a n.toNat
  have hpos : 0 < nP a n.toNat := by unfold nP; omega
  have hsz : ∀ p ∈ pcsL a n.toNat, 8 ≤ p.length ∧ p.length ≤ 400 := fun p hp => by
    obtain ⟨i, hi, rfl⟩ := mem_pcsTo.1 hp
    simp [pieceL, be_length, chunkL]
    omega
  generalize pcsL a n.toNat = ps at o2 hpl hsz
  rw [← hpl] at hpos hnp
  have hlo := o2.len
  obtain ⟨k, hk⟩ : ∃ k, q.toNat % ps.length = k := ⟨_, rfl⟩
  have lk : k < ps.length := by rw [← hk]; exact Nat.mod_lt _ hpos
  have q1 : ∀ ox oy, xbin Try.prog .rem T.int ox oy (.int .i64 (q.toNat : Int)) (.int .i64 (ps.length : Int)) = some (.int .i64 (k : Int)) := fun ox oy => by rw [← hk]; exact remN hpos
  have hwn : IntKind.wrap .i64 (n.toNat : Int) = (n.toNat : Int) := wrap_i64 ⟨by omega, by omega⟩
  have hwq : IntKind.wrap .i64 (q.toNat : Int) = (q.toNat : Int) := wrap_i64 ⟨by omega, by omega⟩
  have hwx : IntKind.wrap .i64 (x.toNat : Int) = (x.toNat : Int) := wrap_i64 ⟨by omega, by omega⟩
  -- all but one
  obtain ⟨w1, w2, v3, v4, H3, H4, m1, m2, m3, m4, r4, s3, s4⟩ := o2.cutOut lk (by omega)
  have m3 : slS T.sl_uint8 1 v2 (some (.int .i64 ((k : Int) + 1))) none none H3 = some w2 := m3
  have ck : ∀ r, okV (some true) r H2 H3 H3 H3 = true := fun r => by
    cases r with
    | none => exact okV_none (.inl s3.n)
    | some k =>
      by_cases hk : k < H2.n
      · exact okV_some (.inr (by
          rcases s3.old k hk with h | ⟨_, h⟩
          · exact h.1
          · exact h.elim)) (.inl s3.n)
      · exact okV_some (.inl (by omega)) (.inl s3.n)
  have hsz4 : ∀ p ∈ ps.take k ++ ps.drop (k + 1), p.length ≤ 400 := fun p hp => by
    rcases List.mem_append.1 hp with hp | hp
    · exact (hsz p (List.mem_of_mem_take hp)).2
    · exact (hsz p (List.mem_of_mem_drop hp)).2
  have hl4 : (ps.take k ++ ps.drop (k + 1)).length ≤ 100 := by simp; omega
  generalize ps.take k ++ ps.drop (k + 1) = l4 at r4 hsz4 hl4
  obtain ⟨v5, H5, e5, r5, s5⟩ := q_joined l4 v4 H4 r4 (by omega) fun p hp => by have := hsz4 p hp; omega
  have j5 := q_joins l4 v4 v5 (jn l4).1 (jn l4).2 H5 (r4.still s5) r5 (by omega) (fun p hp => by have := hsz4 p hp; omega) (by have := sumS' l4 400 hsz4; omega)
  rw [decide_eq_true rfl] at j5
  -- one byte
  have hp8 := hsz _ (List.getElem_mem lk)
  obtain ⟨j, hj⟩ : ∃ j, x.toNat % (ps[k]).length = j := ⟨_, rfl⟩
  have lj : j < (ps[k]).length := by rw [← hj]; exact Nat.mod_lt _ (by omega)
  obtain ⟨b, o, y1, a6, n6, c6, H6, H7, H8, kk, bc, oc, kc, i1, c1, m6, w6, hH7, c7, hn6, i7, w7, hH8, r8⟩ := ((o2.still s4).still s5).poke lk lj (by omega) y
  have q2 : ∀ ox oy, xbin Try.prog .rem T.int ox oy (.int .i64 (x.toNat : Int)) (.int .i64 (n6 : Int)) = some (.int .i64 (j : Int)) := fun ox oy => by rw [hn6, ← hj]; exact remN (by omega)
  have hsz8 : ∀ p ∈ ps.set k (ps[k].set j y), p.length ≤ 400 := fun p hp => by
    rcases List.mem_or_eq_of_mem_set hp with hp | rfl
    · exact (hsz p hp).2
    · simp; omega
  have hl8 : (ps.set k (ps[k].set j y)).length ≤ 100 := by simp; omega
  generalize ps.set k (ps[k].set j y) = l8 at r8 hsz8 hl8
  obtain ⟨v9, H9, e9, r9, s9⟩ := q_joined l8 v2 H8 r8 (by omega) fun p hp => by have := hsz8 p hp; omega
  have j9 := q_joins l8 v2 v9 (jn l8).1 (jn l8).2 H9 (r8.still s9) r9 (by omega) (fun p hp => by have := hsz8 p hp; omega) (by have := sumS' l8 400 hsz8; omega)
  rw [decide_eq_true rfl] at j9
  have lc : lenS (.slice a6 n6 c6) = some (.int .i64 (n6 : Int)) := rfl
  refine any_of (H1 := H9) (d_law_BackupJoins _ _ _ _ _ _ H ?_)
  simp (disch := first | with_reducible rfl | assumption | omega | rfl | (simp only [go_sem]; first | done | omega)) only [go_sem, ↓reduceIte, reduceCtorEq, Nat.reduceEqDiff, Nat.reduceAdd, Nat.reduceSub, Nat.reduceMul, Nat.reduceDiv, Nat.reduceMod, Nat.reduceLeDiff, Nat.reduceLT, Nat.reduceBEq, Int.reduceEq, Int.reduceBEq, Int.reduceBNe, Int.reduceLT, Int.reduceLE, Int.reduceAdd, Int.reduceSub, Int.reduceNeg, Int.reduceToNat, Int.reducePow, Nat.reducePow, Int.reduceMul, Int.reduceDiv, ↓s_law_BackupJoins, hlv, h1, hla, h2, h3, z1, enterK_eq e1, enterK_eq j1, x_uint8_int, hwn, enterK_eq e2, hwq, hlo, q1, m1, m2, m3, m4, ck, enterK_eq e5, enterK_eq j5, i1, c1, m6, w6, hH7, c7, hwx, lc, q2, i7, w7, hH8, enterK_eq e9, enterK_eq j9]

theorem decSl {W : World} {H : Type} {enc : TypeId × Value → H} (hp : 0 < W.heap.size) {cs : List Value} {n : Nat} {y : DataW H × List MemPlace} (h : DataW.trod enc Try.prog W 0 (fun _ => true) true n T.sl_uint8 cs = some y) (hl : cs.length = ESl.w) : ∃ a : Sl, cs.map (conv2 W.heap.size) = ESl.enc a ∧ ∃ l, BR (absHeap2 W) a.v l := by
  obtain ⟨v, l, rfl, h1, _⟩ := open_cell2 (E := EB) (R := fun _ => True) (e' := T.uint8) Try.underlying22 (by kernel_rfl) (fun hp cs n y h hl => decB hp h hl) (.inl hp) h
  obtain ⟨a, c, e⟩ := h1.1.shape
  refine ⟨⟨a, l.length, c⟩, ?_, l, ?_⟩
  · show [_] = [_]
    rw [e]; rfl
  · show BR _ (Value.slice a l.length c) l
    rw [← e]; exact h1

theorem Els.of {H : AHeap} : ∀ {sl : List Sl}, (∀ a, a ∈ sl → ∃ l, BR H a.v l) → ∃ ls, Els H sl ls
  | [], _ => ⟨[], trivial⟩
  | s :: sl, h => by
    obtain ⟨l, hl⟩ := h s (by simp)
    obtain ⟨ls, hls⟩ := Els.of (sl := sl) fun a ha => h a (by simp [ha])
    exact ⟨l :: ls, hl, hls⟩

theorem wf_u8 {i : Int} (h : (Lit.int .u8 i).wf = true) : ∃ c : UInt8, i = (c.toNat : Int) := by
  simp [Lit.wf, IntKind.min, IntKind.max, IntKind.signed, IntKind.bits] at h
  exact ⟨u8 i, (u8_nat ⟨by omega, by omega⟩).symm⟩

theorem run_BackupJoins (W : World) (v : Value) (sl : List Sl) (r : RdS ESl T.sl_uint8 (absHeap2 W) v sl) (hR : ∀ x, x ∈ sl → ∃ l, BR (absHeap2 W) x.v l) (_ : sl.length ≤ maxLen) (va : Value) (a : List UInt8) (ra : RdS EB T.uint8 (absHeap2 W) va a) (_ : ∀ x, x ∈ a → True) (_ : a.length ≤ maxLen)
    (n : Int) (hn : (Lit.int .u8 n).wf = true) (q : Int) (hq : (Lit.int .u8 q).wf = true) (x : Int) (hx : (Lit.int .u8 x).wf = true) (y : Int) (hy : (Lit.int .u8 y).wf = true) :
    ∃ k H', dCall Try.prog prims1 hints k F.law_BackupJoins [v, va, .int .u8 n, .int .u8 q, .int .u8 x, .int .u8 y] (absHeap2 W) = some (.bool true, H') := by
  obtain ⟨ls, hls⟩ := Els.of hR
  obtain ⟨n, rfl⟩ := wf_u8 hn
  obtain ⟨q, rfl⟩ := wf_u8 hq
  obtain ⟨x, rfl⟩ := wf_u8 hx
  obtain ⟨y, rfl⟩ := wf_u8 hy
  obtain ⟨H', h⟩ := q_BackupJoins ls a v va n q x y (absHeap2 W) ⟨sl, r, hls⟩ ra
  obtain ⟨k, h⟩ := D_run h
  exact ⟨k, _, h⟩

end Go.Proofs.Ytehnchfnhbmkdaa

/-
  The law BackupJoins: for every input it returns true, and its input reads as it did.
  Conditions: none. By an AI agent.
-/
namespace Go.Proofs.Ytehnchfnhbmkdaa.backupJoins
open Go.ChangeShapes Go.WideShapes Go.ChangeAt Go.RowKit
open Go.ChangeMaps (open_string shut_string)
set_option linter.unusedVariables false
theorem own : ownKnob Try.prog.godebug = none := by kernel_rfl
theorem laidOut : laidOutB Try.prog = true := by kernel_rfl
set_option maxRecDepth 100000 in
theorem lifted (os : Os) (started : os.Started) (H : Type) (enc : TypeId × Value → H) :
    ReturnsInHanded {} Try.checked os 4 .any (Rows.backupJoinsSpec.pre6 enc Try.prog Try.f4 Rows.backupJoinsRow.domain false) (Rows.backupJoinsSpec.post enc Try.prog Try.f4 false true false false) := by
  refine returnsInHanded_of_change_sized (C := Try.checked) own started (by kernel_rfl) Try.func4
    (ChangeSpec.witness6 (enc := enc) (C := Try.checked) false ⟨#[], #[.slice none 0 0, .slice none 0 0, .int .u8 0, .int .u8 0, .int .u8 0, .int .u8 0], []⟩ 8 (by kernel_rfl) (by kernel_rfl) (by kernel_rfl) (by kernel_rfl)) ?_
  intro W base args ds gs before hval0 hW hcnd hsz0 _
  have hsz : (DataW.weightsEach Try.prog (Try.f4.params.toList ++ Rows.backupJoinsSpec.plain.varTypes Try.prog) (ds ++ gs)).all (· ≤ reachBytes) = true := hsz0
  have hval : ∀ (j : Nat) t v, Try.f4.params[j]? = some t → args[j]? = some v → Value.okWide Try.prog W .any base t v := hval0
  have hW' := hW
  obtain ⟨p, q, hA0, hV, rfl, hfz, hnd⟩ := hW
  have hA : DataW.TrodAll enc Try.prog W 0 (fun _ => true) true Try.f4.params.toList args.toList ds p := hA0
  rw [Try.params4] at hA hval hsz
  obtain ⟨v0, vs0, d0, ds0, p0, q0, hargs, rfl, rfl, h0, r0⟩ := trodAll_cons hA
  obtain ⟨v1, vs1, d1, ds1, p1, q1, rfl, rfl, rfl, h1, r1⟩ := trodAll_cons r0
  obtain ⟨v2, vs2, d2, ds2, p2, q2, rfl, rfl, rfl, h2, r2⟩ := trodAll_cons r1
  obtain ⟨v3, vs3, d3, ds3, p3, q3, rfl, rfl, rfl, h3, r3⟩ := trodAll_cons r2
  obtain ⟨v4, vs4, d4, ds4, p4, q4, rfl, rfl, rfl, h4, r4⟩ := trodAll_cons r3
  obtain ⟨v5, vs5, d5, ds5, p5, q5, rfl, rfl, rfl, h5, r5⟩ := trodAll_cons r4
  obtain ⟨rfl, rfl, rfl⟩ := trodAll_nil r5
  obtain rfl : args = #[v0, v1, v2, v3, v4, v5] := by cases args; simp_all
  obtain ⟨rfl, rfl⟩ := trodVars_none hV
  have k0 := h0
  have lt0 : ∀ x ∈ p0, x.block < W.heap.size := by obtain ⟨m, hm⟩ := k0; exact DataW.trod_lt m _ _ _ hm
  obtain ⟨l0, rd0, all0, len0⟩ := Eng.open_rd2 (t := 25) (e' := 22) Try.underlying25 (by kernel_rfl) (fun hp cs n y h hl => decSl hp h hl) (hval 0 25 v0 rfl rfl) k0
  have k1 := h1
  have lt1 : ∀ x ∈ p1, x.block < W.heap.size := by obtain ⟨m, hm⟩ := k1; exact DataW.trod_lt m _ _ _ hm
  obtain ⟨l1, rd1, all1, len1⟩ := Eng.open_rd2 (t := 22) (e' := 5) Try.underlying22 (by kernel_rfl) (fun hp cs n y h hl => decB hp h hl) (hval 1 22 v1 rfl rfl) k1
  obtain ⟨a2, rfl, rfl, rfl, w2⟩ := open_int Try.underlying5 (hval 2 5 v2 rfl rfl) h2
  obtain ⟨a3, rfl, rfl, rfl, w3⟩ := open_int Try.underlying5 (hval 3 5 v3 rfl rfl) h3
  obtain ⟨a4, rfl, rfl, rfl, w4⟩ := open_int Try.underlying5 (hval 4 5 v4 rfl rfl) h4
  obtain ⟨a5, rfl, rfl, rfl, w5⟩ := open_int Try.underlying5 (hval 5 5 v5 rfl rfl) h5
  refine (Eng.law_calls2 (args := #[v0, v1, .int .u8 a2, .int .u8 a3, .int .u8 a4, .int .u8 a5]) prims1_ok mixed (fun _ hg => absurd hg List.not_mem_nil) (run_BackupJoins W (Eng.convA2 W.heap.size v0) l0 rd0 all0 len0 (Eng.convA2 W.heap.size v1) l1 rd1 all1 len1 a2 w2 a3 w3 a4 w4 a5 w5)).mono fun e W' ⟨he, bel⟩ => ?_
  subst he
  exact ⟨_, rfl, _, _, _, [], _, [], hW', trodAll_mk1 (shut_bool Try.underlying4 _), (trodAll_cons_mk (Below.trod laidOut (by kernel_rfl) (of_decide_eq_true (by kernel_rfl)) k0 bel lt0) (trodAll_cons_mk (Below.trod laidOut (by kernel_rfl) (of_decide_eq_true (by kernel_rfl)) k1 bel lt1) (trodAll_cons_mk (shut_int Try.underlying5 w2) (trodAll_cons_mk (shut_int Try.underlying5 w3) (trodAll_cons_mk (shut_int Try.underlying5 w4) (trodAll_cons_mk (shut_int Try.underlying5 w5) trodAll_mk0)))))), rfl, bel.frame _, fun h => by cases h⟩

theorem over : Rows.backupJoinsRow.holds Try.pinned (OpenSpec.ofChange Rows.backupJoinsSpec) :=
  OpenClaim.holds_of_wide 4 Try.f4 rfl rfl rfl rfl rfl rfl rfl ⟨rfl, rfl, rfl, rfl, rfl⟩ rfl rfl rfl rfl rfl (by kernel_rfl) Try.func4 (by kernel_rfl)
    (of_decide_eq_true (by kernel_rfl)) (by unfold Func.isWrapper; first | (rw [if_pos (by decide +kernel)]; kernel_rfl) | (rw [if_neg (by decide +kernel)]; exact ⟨rfl, rfl⟩))
    (fun os started H enc _ => lifted os started H enc)
theorem proved : Rows.BackupJoinsSaid := over
#print axioms proved
end Go.Proofs.Ytehnchfnhbmkdaa.backupJoins
namespace Go.Proofs.Ytehnchfnhbmkdaa
/-- The row, under a short name, for the claim. -/
theorem backupJoins_holds : Rows.BackupJoinsSaid := backupJoins.proved
end Go.Proofs.Ytehnchfnhbmkdaa
