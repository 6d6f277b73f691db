/-
  5 texts in one (merge.py): Hv Hw Eng37 Eng33 LawIdsPlays.
  Conditions: none. By an AI agent.
-/
import Derived.Test.YtlfpjndbpclnnaaGreatDoorLawIdsPlaysQ2
import Derived.HandedShaped
import Derived.Shelf.Vars
import Derived.Lay
import Derived.PinnedBridge
import Derived.Test.YtlfpjndbpclnnaaGreatDoorRows
import Derived.Test.YtlfpjndbpclnnaaGreatDoorCards
import Derived.Test.YtlfpjndbpclnnaaGreatDoorTie
import Derived.WalkKit
import Derived.ProofKit
import Derived.OpenShut
import Derived.ShutString
import Derived.ChangeOld
import Derived.Below
import Derived.SizedLaws
import Derived.ChangeArms
import Derived.Carry
import Derived.LaidOnce
import Derived.SevenTiedAt
import Derived.Stop.LaidErr

/-
  Chapter 47: IdsPlays.
  Conditions: none. By an AI agent.
-/
set_option maxRecDepth 10000
set_option linter.unusedSimpArgs false
set_option linter.unusedVariables false
namespace Go.Proofs.YtlfpjndbpclnnaaGreatDoor
open Go Eng

def colF (n a b c d x : Nat) : Nat := if x = n + 1 then 1 else if x = n + 2 then 2 else if x = a + 1 ∨ x = a then 3 else if x = b + 1 ∨ x = b then 4 else if x = c + 1 ∨ x = c then 5 else if x = d + 1 ∨ x = d then 6 else if x = n + 3 then 7 else if x = n + 4 then 8 else 9
theorem Fresh.base {H H1 H2 : AHeap} {b : Nat} {l : List Pr} (f : Fresh H1 H2 b l) (s : Still H H1) : Fresh H H2 b l :=
  ⟨s.trans f.still, f.ok, f.mdl, fun c hc => Nat.le_trans s.n (f.new c hc), f.srt, f.len, f.vok⟩
theorem mb_one {H : AHeap} {b c : Nat} (h : H.f b = .cells [.slice none 0 0] T.model_Model true) (hc : MB H b c) : c = b :=
  hc.elim id fun ⟨u, hu, hb⟩ => by rw [h] at hu; cases hu; cases hb
theorem smallP_len {l : List Act} {n : Nat} (h : smallP l n = true) : l.length ≤ n := by
  unfold smallP at h
  simp only [Bool.and_eq_true, decide_eq_true_eq] at h
  exact h.2

set_option maxHeartbeats 8000000 in
/-- The state before the first call. -/
theorem St.start {H Hs Hm Hc Hx Hy Hz He : AHeap} {n0 N0 N1 : Nat} {s0 s1 : Int} {va : Value} {all : List ByteArray} (e0 : n0 = H.n) (ok : Ok H) (ss : Still H Hs) (ns : Hs.n = n0 + 1)
    (hHm : Hs.push (.cells [.slice none 0 0] T.model_Model true) = Hm) (hHc : Hm.push (.cells [.slice none 0 0] T.model_Model true) = Hc) (sx : Still Hc Hx) (nx : Hx.n = n0 + 5)
    (g0 : Gv Hy (Hx.n + 1) Hx.n s0 []) (hN0 : Hx.n + 2 ≤ N0) (ny : Hy.n = N0 + 2) (fx0 : Hy.f (N0 + 1) = .cells [.int .i64 s0, .map (some N0)] T.law_Giver true) (fr0 : Hy.f N0 = .map [])
    (fr1 : Fr (fun b => b = n0 + 3 ∨ b = n0 + 4) Hx Hy)
    (g1 : Gv Hz (Hy.n + 1) Hy.n s1 []) (hN1 : Hy.n + 2 ≤ N1) (nz : Hz.n = N1 + 2) (fx1 : Hz.f (N1 + 1) = .cells [.int .i64 s1, .map (some N1)] T.law_Giver true) (fm1 : Hz.f N1 = .map [])
    (fr2 : Fr (fun b => b = n0 + 3 ∨ b = n0 + 4) Hy Hz)
    (fg : Hz.f (n0 + 3) = .cells [.pointer (some ⟨Hx.n + 1, 0, none⟩), .pointer (some ⟨Hy.n + 1, 0, none⟩)] T.n2_ids_Giver true) (fx : Hz.f (n0 + 4) = .cells [.pointer (some ⟨N0 + 1, 0, none⟩), .pointer (some ⟨N1 + 1, 0, none⟩)] T.n2_ticketlinelaw_Giver true)
    (se : Still Hz He) (ho : Own EStr He T.string va all) (hb : ∀ b, blockOf va = some b → Hz.n ≤ b) :
    St H (n0 + 1) (n0 + 2) (n0 + 3) (n0 + 4) (two s0 s1) va all 0 He := by
  have nm : Hm.n = n0 + 2 := by rw [← hHm]; show Hs.n + 1 = _; omega
  have nc : Hc.n = n0 + 3 := by rw [← hHc]; show Hm.n + 1 = _; omega
  have okS : Ok Hs := ok.fr ss
  have frm := Fresh.start okS hHm
  have frc := Fresh.start frm.ok hHc
  have f1 : Hm.f (n0 + 1) = .cells [.slice none 0 0] T.model_Model true := by rw [← ns, ← hHm]; exact push_f_eq rfl
  have f2 : Hc.f (n0 + 2) = .cells [.slice none 0 0] T.model_Model true := by rw [← nm, ← hHc]; exact push_f_eq rfl
  rw [ns] at frm
  rw [nm] at frc
  have fz : Fr (fun b => b = n0 + 3 ∨ b = n0 + 4) Hx Hz := fr1.then fr2 fun _ _ h => h
  have hxz := fz.n
  have smx : Still Hm Hx := frc.still.trans sx
  have frx := frm.to smx
  have fcx := frc.to sx
  have f1x : Hx.f (n0 + 1) = .cells [.slice none 0 0] T.model_Model true := by rw [smx.f (by omega) fun h => h]; exact f1
  have f2x : Hx.f (n0 + 2) = .cells [.slice none 0 0] T.model_Model true := by rw [sx.f (by omega) fun h => h]; exact f2
  have frz : Fresh Hs Hz (n0 + 1) [] := frx.by fz (fun c hc h => by have := mb_one f1x hc; omega) fun b hb h => by omega
  have fcz : Fresh Hm Hz (n0 + 2) [] := fcx.by fz (fun c hc h => by have := mb_one f2x hc; omega) fun b hb h => by omega
  have fre := (frz.to se).base ss
  have fce := (fcz.to se).base (ss.trans frm.still)
  have f1e : He.f (n0 + 1) = .cells [.slice none 0 0] T.model_Model true := by rw [se.f (by omega) fun h => h, fz.f (by omega) (by omega)]; exact f1x
  have f2e : He.f (n0 + 2) = .cells [.slice none 0 0] T.model_Model true := by rw [se.f (by omega) fun h => h, fz.f (by omega) (by omega)]; exact f2x
  have hne := se.n
  have g0e : Gv He (Hx.n + 1) Hx.n s0 [] := (g0.keep fr2 (by omega) (by omega)).still se
  have g1e : Gv He (Hy.n + 1) Hy.n s1 [] := g1.still se
  have x0e : XS H He (N0 + 1) N0 s0 [] (fun s => nums (atB [] s)) :=
    ⟨by rw [se.f (by omega) fun h => h, fr2.f (by omega) (by omega)]; exact fx0, by rw [se.f (by omega) fun h => h, fr2.f (by omega) (by omega)]; exact fr0, by omega, by omega, by omega, by omega, by omega, fun s => .inl ⟨rfl, rfl⟩, fun s b hb => by rw [atR_nil] at hb; cases hb⟩
  have x1e : XS H He (N1 + 1) N1 s1 [] (fun s => nums (atB [] s)) :=
    ⟨by rw [se.f (by omega) fun h => h]; exact fx1, by rw [se.f (by omega) fun h => h]; exact fm1, by omega, by omega, by omega, by omega, by omega, fun s => .inl ⟨rfl, rfl⟩, fun s b hb => by rw [atR_nil] at hb; cases hb⟩
  refine ⟨⟨colF n0 Hx.n Hy.n N0 N1, two (Hx.n + 1) (Hy.n + 1), two Hx.n Hy.n, two (N0 + 1) (N1 + 1), two N0 N1, fun _ => [], [], fun _ => [], ⟨fre, fce, fun b h => ?_, fun b h => ?_, fun k => ?_, fun k => ?_, fun k => ?_, fun k => ?_, fun k => ?_, fun k => ?_, fun k b hb => ?_, ?_, ?_, ?_, ?_, by omega, by omega, by omega, fun b hbb => ⟨rfl, ho.blk hbb, ?_⟩⟩, fun _ => EV.nil all, Nat.le_refl _⟩, ho.rd, fun b hbb => ho.blk hbb⟩
  · have := mb_one f1e h
    unfold colF; (repeat' split) <;> omega
  · have := mb_one f2e h
    unfold colF; (repeat' split) <;> omega
  · cases k
    · exact g0e
    · exact g1e
  · cases k <;> simp only [two, Bool.toNat, Bool.false_eq_true, if_false, if_true, cond_true, cond_false] <;> unfold colF <;> (repeat' split) <;> omega
  · cases k <;> simp only [two, Bool.toNat, Bool.false_eq_true, if_false, if_true, cond_true, cond_false] <;> unfold colF <;> (repeat' split) <;> omega
  · cases k <;> simp only [two, Bool.false_eq_true, if_false, if_true] <;> omega
  · cases k <;> simp only [two, Bool.false_eq_true, if_false, if_true] <;> omega
  · cases k
    · exact x0e
    · exact x1e
  · have hb : b = two (N0 + 1) (N1 + 1) k ∨ b = two N0 N1 k := by
      rcases hb with h | h | ⟨s, h⟩
      · exact .inl h
      · exact .inr h
      · rw [atR_nil] at h; cases h
    cases k <;> simp only [two, Bool.toNat, Bool.false_eq_true, if_false, if_true, cond_true, cond_false] at hb ⊢ <;> unfold colF <;> (repeat' split) <;> omega
  · rw [se.f (by omega) fun h => h]; exact fg
  · rw [se.f (by omega) fun h => h]; exact fx
  · unfold colF; (repeat' split) <;> omega
  · unfold colF; (repeat' split) <;> omega
  · have := hb b hbb
    unfold colF; (repeat' split) <;> omega

end Go.Proofs.YtlfpjndbpclnnaaGreatDoor

/-
  Chapter 47: IdsPlays: the law.
  Conditions: none. By an AI agent.
-/
set_option maxRecDepth 10000
set_option linter.unusedSimpArgs false
set_option linter.unusedVariables false
namespace Go.Proofs.YtlfpjndbpclnnaaGreatDoor
open Go Eng

set_option maxHeartbeats 4000000 in
theorem q_IdsPlays (l : List Act) (v : Value) (s0 s1 : Int) (H : AHeap) (ok : Ok H) (hr : Rd EAct H v l) : ∃ H', CC F.law_IdsPlays [.agg #[.int .i64 s0, .int .i64 s1], v] H = some (.bool true, H') := by
  obtain ⟨Hs, hHs⟩ : ∃ Hs, H.push (.cells [.int .i64 s0, .int .i64 s1] T.n2_int true) = Hs := ⟨_, rfl⟩
  have ss : Still H Hs := by rw [← hHs]; exact (Fr.refl H).push _
  have ns : Hs.n = H.n + 1 := by rw [← hHs]; rfl
  have fs : Hs.f H.n = .cells [.int .i64 s0, .int .i64 s1] T.n2_int true := by rw [← hHs]; exact push_f_eq rfl
  have sm := q_small l 30 (by decide) v Hs (hr.still ss)
  have sm : CC F.law_small [v, .int .i64 30] Hs = some (.bool (smallP l 30), Hs) := sm
  cases hsm : smallP l 30 with
  | false =>
    rw [hsm] at sm
    refine any_of (H1 := Hs) (d_law_IdsPlays _ _ H ?_)
    simp (disch := first | with_reducible rfl | assumption | omega | rfl | (simp only [go_sem]; first | done | omega)) only [go_sem, ↓reduceIte, reduceCtorEq, Nat.reduceEqDiff, Nat.reduceAdd, Nat.reduceSub, Nat.reduceMul, Nat.reduceDiv, Nat.reduceMod, Nat.reduceLeDiff, Nat.reduceLT, Nat.reduceBEq, Int.reduceEq, Int.reduceBEq, Int.reduceBNe, Int.reduceLT, Int.reduceLE, Int.reduceAdd, Int.reduceSub, Int.reduceNeg, Int.reduceToNat, Int.reducePow, Nat.reducePow, Int.reduceMul, Int.reduceDiv, ↓s_law_IdsPlays, hHs, ↓enterK_eq sm, enterK_eq sm]
  | true =>
    rw [hsm] at sm
    have hll := smallP_len hsm
    obtain ⟨Hm, hHm⟩ : ∃ Hm, Hs.push (.cells [.slice none 0 0] T.model_Model true) = Hm := ⟨_, rfl⟩
    obtain ⟨Hc, hHc⟩ : ∃ Hc, Hm.push (.cells [.slice none 0 0] T.model_Model true) = Hc := ⟨_, rfl⟩
    obtain ⟨Hg, hHg⟩ : ∃ Hg, Hc.push (.cells [.pointer none, .pointer none] T.n2_ids_Giver true) = Hg := ⟨_, rfl⟩
    obtain ⟨Hx, hHx⟩ : ∃ Hx, Hg.push (.cells [.pointer none, .pointer none] T.n2_ticketlinelaw_Giver true) = Hx := ⟨_, rfl⟩
    have nm : Hm.n = H.n + 2 := by rw [← hHm]; show Hs.n + 1 = _; omega
    have nc : Hc.n = H.n + 3 := by rw [← hHc]; show Hm.n + 1 = _; omega
    have ng : Hg.n = H.n + 4 := by rw [← hHg]; show Hc.n + 1 = _; omega
    have nx : Hx.n = H.n + 5 := by rw [← hHx]; show Hg.n + 1 = _; omega
    have s1' : Still Hs Hm := by rw [← hHm]; exact (Fr.refl Hs).push _
    have s2' : Still Hm Hc := by rw [← hHc]; exact (Fr.refl Hm).push _
    have s3' : Still Hc Hg := by rw [← hHg]; exact (Fr.refl Hc).push _
    have s4' : Still Hg Hx := by rw [← hHg] at *; rw [← hHx]; exact (Fr.refl _).push _
    have fg : Hx.f (H.n + 3) = .cells [.pointer none, .pointer none] T.n2_ids_Giver true := by
      rw [s4'.f (by omega) fun h => h, ← nc, ← hHg]; exact push_f_eq rfl
    have fx : Hx.f (H.n + 4) = .cells [.pointer none, .pointer none] T.n2_ticketlinelaw_Giver true := by
      rw [← ng, ← hHx]; exact push_f_eq rfl
    have fsx : Hx.f H.n = .cells [.int .i64 s0, .int .i64 s1] T.n2_int true := by
      rw [s4'.f (by omega) fun h => h, s3'.f (by omega) fun h => h, s2'.f (by omega) fun h => h, s1'.f (by omega) fun h => h]; exact fs
    by_cases b0 : s0 < 1 ∨ 1000 < s0
    · obtain ⟨H', hl⟩ := ip0bad false (z := s0) (H := Hx) (sa := H.n) (ga := H.n + 3) (xa := H.n + 4) (bm := H.n + 1) (bc := H.n + 2) v fsx rfl b0
      have hl : ∀ K : K, l_law_IdsPlays_0 v (.pointer (some ⟨H.n, 0, none⟩)) (.pointer (some ⟨H.n + 1, 0, none⟩)) (.pointer (some ⟨H.n + 2, 0, none⟩)) (.pointer (some ⟨H.n + 3, 0, none⟩)) (.pointer (some ⟨H.n + 4, 0, none⟩)) (.int .i64 0) Hx (blkK [1, 5, 6, 7, 8] 0 K) = K .ret [(4, .bool true)] H' := hl
      refine any_of (H1 := H') (d_law_IdsPlays _ _ H ?_)
      simp (disch := first | with_reducible rfl | assumption | omega | rfl | (simp only [go_sem]; first | done | omega)) only [go_sem, ↓reduceIte, reduceCtorEq, Nat.reduceEqDiff, Nat.reduceAdd, Nat.reduceSub, Nat.reduceMul, Nat.reduceDiv, Nat.reduceMod, Nat.reduceLeDiff, Nat.reduceLT, Nat.reduceBEq, Int.reduceEq, Int.reduceBEq, Int.reduceBNe, Int.reduceLT, Int.reduceLE, Int.reduceAdd, Int.reduceSub, Int.reduceNeg, Int.reduceToNat, Int.reducePow, Nat.reducePow, Int.reduceMul, Int.reduceDiv, ↓s_law_IdsPlays, hHs, ↓enterK_eq sm, enterK_eq sm, hHm, hHc, hHg, hHx, ns, nm, nc, ng, hl]
    · obtain ⟨N0, Hy, hN0, ny, g0, fx0, fr0, fr1, fg1, fxx1, hl0⟩ := ip0 false (z := s0) (bm := H.n + 1) (bc := H.n + 2) v fsx fg fx (by omega) (by omega) (by omega) (by omega) (by omega) rfl (by omega) (by omega)
      have fsy : Hy.f H.n = .cells [.int .i64 s0, .int .i64 s1] T.n2_int true := by rw [fr1.f (by omega) (by omega)]; exact fsx
      by_cases b1 : s1 < 1 ∨ 1000 < s1
      · obtain ⟨H', hl⟩ := ip0bad true (z := s1) (H := Hy) (sa := H.n) (ga := H.n + 3) (xa := H.n + 4) (bm := H.n + 1) (bc := H.n + 2) v fsy rfl b1
        have hl : ∀ K : K, l_law_IdsPlays_0 v (.pointer (some ⟨H.n, 0, none⟩)) (.pointer (some ⟨H.n + 1, 0, none⟩)) (.pointer (some ⟨H.n + 2, 0, none⟩)) (.pointer (some ⟨H.n + 3, 0, none⟩)) (.pointer (some ⟨H.n + 4, 0, none⟩)) (.int .i64 0) Hx (blkK [1, 5, 6, 7, 8] 0 K) = K .ret [(4, .bool true)] H' := fun K => (hl0 _).trans (hl K)
        refine any_of (H1 := H') (d_law_IdsPlays _ _ H ?_)
        simp (disch := first | with_reducible rfl | assumption | omega | rfl | (simp only [go_sem]; first | done | omega)) only [go_sem, ↓reduceIte, reduceCtorEq, Nat.reduceEqDiff, Nat.reduceAdd, Nat.reduceSub, Nat.reduceMul, Nat.reduceDiv, Nat.reduceMod, Nat.reduceLeDiff, Nat.reduceLT, Nat.reduceBEq, Int.reduceEq, Int.reduceBEq, Int.reduceBNe, Int.reduceLT, Int.reduceLE, Int.reduceAdd, Int.reduceSub, Int.reduceNeg, Int.reduceToNat, Int.reducePow, Nat.reducePow, Int.reduceMul, Int.reduceDiv, ↓s_law_IdsPlays, hHs, ↓enterK_eq sm, enterK_eq sm, hHm, hHc, hHg, hHx, ns, nm, nc, ng, hl]
      · have e0 : (kI false + 1) = kI true := rfl
        obtain ⟨N1, Hz, hN1, nz, g1, fx1, fm1, fr2, fg2, fxx2, hl1⟩ := ip0 true (z := s1) (bm := H.n + 1) (bc := H.n + 2) v fsy fg1 fxx1 (by omega) (by omega) (by omega) (by omega) (by omega) rfl (by omega) (by omega)
        simp only [Bool.false_eq_true, if_false, if_true] at fg2 fxx2
        have hl : ∀ K : K, l_law_IdsPlays_0 v (.pointer (some ⟨H.n, 0, none⟩)) (.pointer (some ⟨H.n + 1, 0, none⟩)) (.pointer (some ⟨H.n + 2, 0, none⟩)) (.pointer (some ⟨H.n + 3, 0, none⟩)) (.pointer (some ⟨H.n + 4, 0, none⟩)) (.int .i64 0) Hx (blkK [1, 5, 6, 7, 8] 0 K) = K .normal [(1, v), (5, .pointer (some ⟨H.n + 1, 0, none⟩)), (6, .pointer (some ⟨H.n + 2, 0, none⟩)), (7, .pointer (some ⟨H.n + 3, 0, none⟩)), (8, .pointer (some ⟨H.n + 4, 0, none⟩))] Hz := fun K => by
          refine (hl0 _).trans ((hl1 _).trans ?_)
          show l_law_IdsPlays_0 _ _ _ _ _ _ (.int .i64 2) Hz _ = _
          rw [r_law_IdsPlays_0]
          simp (disch := first | with_reducible rfl | assumption | omega | rfl | (simp only [go_sem]; first | done | omega)) only [go_sem, ↓reduceIte, reduceCtorEq, Nat.reduceEqDiff, Nat.reduceAdd, Nat.reduceSub, Nat.reduceMul, Nat.reduceDiv, Nat.reduceMod, Nat.reduceLeDiff, Nat.reduceLT, Nat.reduceBEq, Int.reduceEq, Int.reduceBEq, Int.reduceBNe, Int.reduceLT, Int.reduceLE, Int.reduceAdd, Int.reduceSub, Int.reduceNeg, Int.reduceToNat, Int.reducePow, Nat.reducePow, Int.reduceMul, Int.reduceDiv, ↓s_law_IdsPlays_b0]
        have sxz : Still H Hx := (((ss.trans s1').trans s2').trans s3').trans s4'
        have sHz : Still H Hz := sxz.then (fr1.then fr2 fun _ _ h => h) fun b hb h => by
          have : False := by omega
          exact this
        obtain ⟨va, He, m1, ho, hb, se, hln⟩ := q_names l v (hr.still sHz) (by omega)
        have st := St.start (n0 := H.n) rfl ok ss ns hHm hHc (s3'.trans s4') nx g0 hN0 ny fx0 fr0 fr1 g1 hN1 nz fx1 fm1 fr2 fg2 fxx2 se ho hb
        obtain ⟨H', hl2⟩ := l_ip1 (by omega) (names_sorted l) l v hr hll (fun a ha => names_mem ha) l.length 0 He (by omega) st
        have hl2 : ∀ K : K, l_law_IdsPlays_1 v (.pointer (some ⟨H.n + 1, 0, none⟩)) (.pointer (some ⟨H.n + 2, 0, none⟩)) (.pointer (some ⟨H.n + 3, 0, none⟩)) (.pointer (some ⟨H.n + 4, 0, none⟩)) va (.int .i64 0) He (blkK [] 2 K) = K .normal [] H' := hl2
        refine any_of (H1 := H') (d_law_IdsPlays _ _ H ?_)
        simp (disch := first | with_reducible rfl | assumption | omega | rfl | (simp only [go_sem]; first | done | omega)) only [go_sem, ↓reduceIte, reduceCtorEq, Nat.reduceEqDiff, Nat.reduceAdd, Nat.reduceSub, Nat.reduceMul, Nat.reduceDiv, Nat.reduceMod, Nat.reduceLeDiff, Nat.reduceLT, Nat.reduceBEq, Int.reduceEq, Int.reduceBEq, Int.reduceBNe, Int.reduceLT, Int.reduceLE, Int.reduceAdd, Int.reduceSub, Int.reduceNeg, Int.reduceToNat, Int.reducePow, Nat.reducePow, Int.reduceMul, Int.reduceDiv, ↓s_law_IdsPlays, hHs, ↓enterK_eq sm, enterK_eq sm, hHm, hHc, hHg, hHx, ns, nm, nc, ng, hl, ↓enterK_eq m1, enterK_eq m1, hl2]

theorem decAct {W : World} {H : Type} {enc : TypeId × Value → H} (_ : 0 < W.heap.size) {cs : List Value} {n : Nat} {y : DataW H × List MemPlace} (h : DataW.trod enc Tryz.prog W 0 (fun _ => true) true n T.law_Act cs = some y) (hl : cs.length = EAct.w) :
    ∃ a : Act, cs.map (conv2 W.heap.size) = EAct.enc a ∧ True := by
  have ht := Tryz.underlying43
  obtain ⟨c0, c1, c2, c3, c4, rfl⟩ : ∃ c0 c1 c2 c3 c4, cs = [c0, c1, c2, c3, c4] := by
    match cs, hl with
    | [c0, c1, c2, c3, c4], _ => exact ⟨_, _, _, _, _, rfl⟩
  obtain ⟨m0, z0, h0⟩ := dec_field ht h (i := 0) rfl rfl (by kernel_rfl) rfl
  obtain ⟨m1, z1, h1⟩ := dec_field ht h (i := 1) rfl rfl (by kernel_rfl) rfl
  obtain ⟨m2, z2, h2⟩ := dec_field ht h (i := 2) rfl rfl (by kernel_rfl) rfl
  obtain ⟨m3, z3, h3⟩ := dec_field ht h (i := 3) rfl rfl (by kernel_rfl) rfl
  obtain ⟨m4, z4, h4⟩ := dec_field ht h (i := 4) rfl rfl (by kernel_rfl) rfl
  obtain ⟨s0, rfl, _⟩ := dec_int Tryz.underlying3 h0
  obtain ⟨s1, rfl, _⟩ := dec_int Tryz.underlying3 h1
  obtain ⟨b2, hb, _⟩ := DataW.trod_bool Tryz.underlying4 h2
  obtain rfl : c2 = .bool b2 := (List.cons.inj hb).1
  obtain ⟨s3, rfl, _⟩ := dec_str Tryz.underlying9 h3
  obtain ⟨s4, rfl, _⟩ := dec_str Tryz.underlying9 h4
  exact ⟨⟨s0, s1, b2, s3, s4⟩, rfl, trivial⟩

/-- The two sizes. -/
theorem openTwo {W : World} {H : Type} {enc : TypeId × Value → H} {v : Value} {d : DataW H} {p : List MemPlace} (hval : Value.okWide Tryz.prog W .any 0 T.n2_int v) (h : DataW.Trod enc Tryz.prog W 0 (fun _ => true) true T.n2_int v d p) :
    ∃ a : Int × Int, convA2 W.heap.size v = .agg #[.int .i64 a.1, .int .i64 a.2] ∧ True := by
  have ht := Tryz.underlying22
  simp only [Value.okWide, ht] at hval
  obtain ⟨cs, rfl, hsz, ts, _, _, hall⟩ := hval
  obtain ⟨fuel, hf⟩ := h
  have hf : DataW.trod enc Tryz.prog W 0 (fun _ => true) true fuel T.n2_int cs.toList = some (d, p) := hf
  obtain ⟨xs, m, _, _, _, hxl, hel⟩ := DataW.trod_array ht hf
  have hc : Tryz.prog.cellsOf T.int = 1 := by kernel_rfl
  have hsz : cs.toList.length = 2 := by rw [Array.length_toList, hsz]; kernel_rfl
  obtain ⟨c0, c1, hcs⟩ : ∃ c0 c1, cs.toList = [c0, c1] := by
    match cs.toList, hsz with
    | [c0, c1], _ => exact ⟨_, _, rfl⟩
  have h0 := hel 0 (by decide)
  have h1 := hel 1 (by decide)
  change DataW.trod enc Tryz.prog W 0 (fun _ => true) true m T.int ((cs.toList.drop (0 * Tryz.prog.cellsOf T.int)).take (Tryz.prog.cellsOf T.int)) = xs[0]? at h0
  change DataW.trod enc Tryz.prog W 0 (fun _ => true) true m T.int ((cs.toList.drop (1 * Tryz.prog.cellsOf T.int)).take (Tryz.prog.cellsOf T.int)) = xs[1]? at h1
  rw [hc, hcs, List.getElem?_eq_getElem (by omega)] at h0 h1
  have h0 : DataW.trod enc Tryz.prog W 0 (fun _ => true) true m T.int [c0] = some _ := h0
  have h1 : DataW.trod enc Tryz.prog W 0 (fun _ => true) true m T.int [c1] = some _ := h1
  obtain ⟨s0, rfl, _⟩ := dec_int Tryz.underlying3 h0
  obtain ⟨s1, rfl, _⟩ := dec_int Tryz.underlying3 h1
  have hcs' : cs = #[.int .i64 s0, .int .i64 s1] := Array.toList_inj.1 hcs
  subst hcs'
  refine ⟨(s0, s1), ?_, trivial⟩
  show Value.agg ((#[Value.int .i64 s0, Value.int .i64 s1] : Array Value).map (conv2 W.heap.size)) = _
  congr 1
  apply Array.toList_inj.1
  rw [Array.toList_map]
  rfl

theorem run_IdsPlays (W : World) (a : Value) (z : Int × Int) (hz : a = .agg #[.int .i64 z.1, .int .i64 z.2]) (_ : True) (v : Value) (l : List Act) (rl : RdS EAct T.law_Act (absHeap2 W) v l) (_ : ∀ x, x ∈ l → True) (_ : l.length ≤ maxLen) :
    ∃ k' H', dCall Tryz.prog prims1 hints k' F.law_IdsPlays [a, v] (absHeap2 W) = some (.bool true, H') := by
  subst hz
  obtain ⟨H', h⟩ := q_IdsPlays l v z.1 z.2 (absHeap2 W) (fun _ => Nat.zero_lt_one) rl.1
  obtain ⟨k, h⟩ := D_run h
  exact ⟨k, _, h⟩

end Go.Proofs.YtlfpjndbpclnnaaGreatDoor

/-
  The engine, part 37: arguments that are structs.
  Conditions: none. By an AI agent.
-/
namespace Go.Proofs.YtlfpjndbpclnnaaGreatDoor.Eng
open Go
set_option linter.unusedVariables false
set_option linter.unusedSimpArgs false

section
variable {P : Program} {W : World} {α : Type} {E : Enc α} {R : α → Prop} {H : Type} {enc : TypeId × Value → H}

theorem pos_of_has {r : Reach} {base : Nat} {a : Addr} {e : TypeId} {n : Nat} (h : W.has P r base a e n) : 0 < W.heap.size := by
  obtain ⟨_, _, row, cells, hshape, _⟩ := h
  unfold World.shape? at hshape
  split at hshape
  · rename_i hw; have := (Array.getElem?_eq_some_iff.1 hw).1; omega
  · cases hshape
theorem pos_of_cell {r : Reach} {base : Nat} {u : TypeId} {a : Addr} {len cap : Nat} (h : Cell.okWide P W r base u (.slice (some a) len cap)) : 0 < W.heap.size := by
  unfold Cell.okWide at h
  split at h
  all_goals first
    | (rename_i h1 h2; cases h2)
    | skip
  unfold Cell.ok at h
  split at h
  all_goals first
    | (rename_i h1 h2; cases h2; exact pos_of_has h.2.2)
    | (rename_i h1 h2; cases h2)
    | exact h.elim

/-- An argument that is a struct. -/
theorem open_agg2 {t : TypeId} {v : Value} {d : DataW H} {p : List MemPlace} {fs : Array Field} (ht : P.underlying t = some (.struct fs)) (hC : P.cellsOf t = E.w)
    (dec : ∀ cs n y, (0 < W.heap.size ∨ ∀ c, c ∈ cs → ∀ a, c ≠ .slice (some a) 0 0) → DataW.trod enc P W 0 (fun _ => true) true n t cs = some y → cs.length = E.w → ∃ a, cs.map (conv2 W.heap.size) = E.enc a ∧ R a)
    (hval : Value.okWide P W .any 0 t v) (h : DataW.Trod enc P W 0 (fun _ => true) true t v d p) :
    ∃ a : α, convA2 W.heap.size v = .agg ⟨E.enc a⟩ ∧ R a := by
  simp only [Value.okWide, ht] at hval
  obtain ⟨cs, rfl, hsz, ts, _, _, hall⟩ := hval
  obtain ⟨fuel, hf⟩ := h
  have hf : DataW.trod enc P W 0 (fun _ => true) true fuel t cs.toList = some (d, p) := hf
  obtain ⟨a, ha, hR⟩ := dec cs.toList fuel _ (by
    by_cases hp : 0 < W.heap.size
    · exact .inl hp
    · refine .inr fun c hc a e => hp ?_
      subst e
      obtain ⟨i, hi, he⟩ := List.getElem_of_mem hc
      obtain ⟨u, _, hu⟩ := hall i (.slice (some a) 0 0) (by rw [← Array.getElem?_toList, List.getElem?_eq_getElem hi, he])
      exact pos_of_cell hu) hf (by rw [Array.length_toList, hsz, hC])
  refine ⟨a, ?_, hR⟩
  show Value.agg (cs.map (conv2 W.heap.size)) = _
  rw [← ha]
  congr 1
  apply Array.toList_inj.1
  simp
end

end Go.Proofs.YtlfpjndbpclnnaaGreatDoor.Eng

/-
  The engine, part 33: rows with laid variables: the wrap that keeps the world's shape; arguments that are structs.
  Conditions: none. By an AI agent.
-/
namespace Go.Proofs.YtlfpjndbpclnnaaGreatDoor.Eng
open Go
set_option linter.unusedVariables false
set_option linter.unusedSimpArgs false

section
variable {H : Type} {enc : TypeId × Value → H}
/-- returnsInHanded_of_change_and, the world's shape kept. -/
theorem wrapX {a : Assume} {C : Checked} {os : Os} {f : FuncId} {fn : Func} {s : ChangeSpec} {conds : List PathCond} {apart fresh handsOn again : Bool} {X : World → Array Value → Prop}
    (hX : ∀ (w w' : World) (args : Array Value), w.heap = w'.heap → X w args → X w' args)
    (own : ownKnob C.prog.godebug = none) (started : os.Started) (noInit : C.prog.inits.idxOf? f = none) (hfn : C.prog.funcs[f]? = some fn)
    (witness : ∃ (w : World) (tape : Tape) (i : Input), w.os = os ∧ (w.forCall tape i).Shaped C.prog ∧ i.vars = [] ∧ Input.okWide C.prog (w.forCall tape i) .any w.heap.size f i ∧
      ((s.pre enc C.prog fn conds apart (w.forCall tape i).memory i.args ∧ X (w.forCall tape i).memory i.args) ∧ sizedMet enc C.prog fn (OpenSpec.ofChange s) apart (w.forCall tape i).memory i.args) ∧ a.holds C.prog (lone (Frame.enter C.prog f i.args .normal) [] (w.forCall tape i)))
    (contract : ∀ (W : World) (base : Nat) (args : Array Value) (ds gs : List (DataW H)) (before : List MemPlace),
      (∀ (j : Nat) t v, fn.params[j]? = some t → args[j]? = some v → Value.okWide C.prog W .any base t v) →
      DataW.Whole enc C.prog fn.params.toList s.vars apart W args.toList ds gs before →
      (DataW.weightsEach C.prog (fn.params.toList ++ s.plain.varTypes C.prog) (ds ++ gs)).all (· ≤ reachBytes) = true →
      W.ShapedOpen C.prog → X W args →
      Calls C.prog f args W fun e W' => ∃ v, e = .returned v ∧ s.post enc C.prog fn apart fresh handsOn again W args v W') :
    ReturnsInHanded a C os f .any (fun w args => (s.pre enc C.prog fn conds apart w args ∧ X w args) ∧ sizedMet enc C.prog fn (OpenSpec.ofChange s) apart w args) (s.post enc C.prog fn apart fresh handsOn again) := by
  refine returnsInHanded_of_calls own started noInit witness ?_
  intro w tape i _ hsh _ hok hpre _
  obtain ⟨_, _, _, fn', hfn', _, _, _, _, hval⟩ := hok
  have e : fn' = fn := Option.some.inj (hfn'.symm.trans hfn)
  subst e
  obtain ⟨⟨⟨ds, gs, before, hw, hc⟩, hx⟩, hz⟩ := hpre
  have hw' := DataW.Whole.of_heap (w' := w.forCall tape i) (by rfl) hw
  refine (contract (w.forCall tape i) w.heap.size i.args ds gs before hval hw' (hz.weights hw) hsh (hX (w.forCall tape i).memory _ _ rfl hx)).mono fun e W' ⟨v, he, hp⟩ => ?_
  subst he
  exact ChangeSpec.post_blind hp
end

end Go.Proofs.YtlfpjndbpclnnaaGreatDoor.Eng

/-
  The law IdsPlays: for every input it returns true, and its input reads as it did; and its card.
  Conditions: none. By an AI agent.
-/
namespace Go.Proofs.YtlfpjndbpclnnaaGreatDoor.idsPlays
open Go Go.ChangeShapes Go.WideShapes Go.ChangeAt Go.RowKit Go.Shelf Go.Lib
open Go.ChangeMaps (open_string shut_string)
set_option linter.unusedVariables false
theorem own : ownKnob Tryz.prog.godebug = none := by kernel_rfl
theorem laidOut : laidOutB Tryz.prog = true := by kernel_rfl
theorem gN0 : Tryz.prog.globalNamed "strconv.ErrSyntax" = some 0 := by kernel_rfl
theorem gT0 : (Tryz.prog.globals[0]?).map (·.type) = some 97 := by kernel_rfl
theorem star0 : "*" ++ "errors.errorString" = "*errors.errorString" := by decide
theorem row0 (u : TypeId) (h : Tryz.prog.typeName? 3 u = some "*errors.errorString") : u = 157 :=
  typeName_ptr_named (nm := "errors.errorString") (by rw [star0]; kernel_rfl) (by kernel_rfl) (by decide) u (by rw [star0]; exact h)
theorem gN1 : Tryz.prog.globalNamed "strconv.ErrRange" = some 1 := by kernel_rfl
theorem gT1 : (Tryz.prog.globals[1]?).map (·.type) = some 97 := by kernel_rfl
theorem star1 : "*" ++ "errors.errorString" = "*errors.errorString" := by decide
theorem row1 (u : TypeId) (h : Tryz.prog.typeName? 3 u = some "*errors.errorString") : u = 157 :=
  typeName_ptr_named (nm := "errors.errorString") (by rw [star1]; kernel_rfl) (by kernel_rfl) (by decide) u (by rw [star1]; exact h)
theorem gN2 : Tryz.prog.globalNamed "internal/strconv.uint64pow10" = some 2 := by kernel_rfl
theorem gT2 : (Tryz.prog.globals[2]?).map (·.type) = some 152 := by kernel_rfl
theorem glob (W : World) (hsh : W.ShapedOpen Tryz.prog) (hl : laidMetH Tryz.prog Rows.idsPlaysRow.laid W) : Eng.Glob W.heap.size W := fun g hg => by
  rw [MakeChecks.laidMetH_plain _ _ _ (by kernel_rfl)] at hl
  simp only [Eng.globs, List.mem_cons, List.not_mem_nil, or_false] at hg
  rcases hg with rfl | rfl | rfl
  · obtain ⟨a, sx, hv, _⟩ := laid_sentinel hl.tail.tail.tail.tail gN0 gT0 Tryz.underlying97 row0 Tryz.underlying157 Tryz.underlying159 rfl rfl Tryz.underlying9 (by kernel_rfl) (by kernel_rfl)
    have hm : W.cell? ⟨0, 0, none⟩ = some (.iface 157 (.pointer (some a))) := by simpa using World.var?_cell gN0 hv 0
    obtain ⟨cs, e, fr, h1, _, _⟩ := Eng.cell_abs hm
    rw [Eng.cell_cellO] at hm
    exact ⟨(Array.getElem?_eq_some_iff.1 h1).1, _, hm, .inr ⟨_, _, rfl⟩⟩
  · obtain ⟨a, sx, hv, _⟩ := laid_sentinel hl.tail.tail.tail gN1 gT1 Tryz.underlying97 row1 Tryz.underlying157 Tryz.underlying159 rfl rfl Tryz.underlying9 (by kernel_rfl) (by kernel_rfl)
    have hm : W.cell? ⟨1, 0, none⟩ = some (.iface 157 (.pointer (some a))) := by simpa using World.var?_cell gN1 hv 0
    obtain ⟨cs, e, fr, h1, _, _⟩ := Eng.cell_abs hm
    rw [Eng.cell_cellO] at hm
    exact ⟨(Array.getElem?_eq_some_iff.1 h1).1, _, hm, .inr ⟨_, _, rfl⟩⟩
  · have ht : Lib.TabIs Tryz.prog W "internal/strconv.uint64pow10" .u64 [1, 10, 100, 1000, 10000, 100000, 1000000, 10000000, 100000000, 1000000000, 10000000000, 100000000000, 1000000000000, 10000000000000, 100000000000000, 1000000000000000, 10000000000000000, 100000000000000000, 1000000000000000000, 10000000000000000000] := Lib.tabIs_of_head gN2 gT2 Tryz.underlying152 Tryz.underlying132 (by kernel_rfl) (by kernel_rfl) (rest := _) hl.tail.tail
    unfold Lib.TabIs World.var? at ht
    simp only [gN2, Option.bind_some] at ht
    split at ht
    · rename_i cs e fr hh
      cases ht
      exact ⟨(Array.getElem?_eq_some_iff.1 hh).1, e, fr, hh⟩
    · cases ht
set_option maxRecDepth 100000 in
theorem lifted (os : Os) (started : os.Started) (H : Type) (enc : TypeId × Value → H) :
    ReturnsInHanded {} Tryz.checked os 3 .any (fun w args => (Rows.idsPlaysSpec.pre enc Tryz.prog Tryz.f3 [] false w args ∧ laidMetH Tryz.prog Rows.idsPlaysRow.laid w) ∧ sizedMet enc Tryz.prog Tryz.f3 (OpenSpec.ofChange Rows.idsPlaysSpec) false w args)
      (Rows.idsPlaysSpec.post enc Tryz.prog Tryz.f3 false true false false) := by
  refine Eng.wrapX (C := Tryz.checked) (X := fun w _ => laidMetH Tryz.prog Rows.idsPlaysRow.laid w) (fun _ _ _ hh h => h.of_heap hh) own started (by kernel_rfl) Tryz.func3
    (ChangeSpec.witness_shaped (enc := enc) (C := Tryz.checked) (os := os) (X := fun w _ => laidMetH Tryz.prog Rows.idsPlaysRow.laid w) false (World.laidAll Tryz.prog os Rows.idsPlaysRow.laid) #[.agg #[(.int .i64 0), (.int .i64 0)], .slice none 0 0] 8 (World.laidAll_os _ _ _)
      (World.shaped_of_ZipB (by kernel_rfl) (by kernel_rfl)) (by kernel_rfl) (by kernel_rfl) (by kernel_rfl)
      (by rw [MakeChecks.laidMetH_plain _ _ _ (by kernel_rfl)]; exact laidMet_laidAll _ (by kernel_rfl) (by kernel_rfl))) ?_
  intro W base args ds gs before hval0 hW hsz0 hsh hlx
  have hsz : (DataW.weightsEach Tryz.prog (Tryz.f3.params.toList ++ Rows.idsPlaysSpec.plain.varTypes Tryz.prog) (ds ++ gs)).all (· ≤ reachBytes) = true := hsz0
  have hval : ∀ (j : Nat) t v, Tryz.f3.params[j]? = some t → args[j]? = some v → Value.okWide Tryz.prog W .any base t v := hval0
  have hW' := hW
  obtain ⟨p, q, hA0, hV, rfl, hfz, hnd⟩ := hW
  have hA : DataW.TrodAll enc Tryz.prog W 0 (fun _ => true) true Tryz.f3.params.toList args.toList ds p := hA0
  rw [Tryz.params3] at hA hval hsz
  obtain ⟨v0, vs0, d0, ds0, p0, q0, hargs, rfl, rfl, h0, r0⟩ := trodAll_cons hA
  obtain ⟨v1, vs1, d1, ds1, p1, q1, rfl, rfl, rfl, h1, r1⟩ := trodAll_cons r0
  obtain ⟨rfl, rfl, rfl⟩ := trodAll_nil r1
  obtain rfl : args = #[v0, v1] := by cases args; simp_all
  obtain ⟨rfl, rfl⟩ := trodVars_none hV
  have k0 := h0
  have lt0 : ∀ x ∈ p0, x.block < W.heap.size := by obtain ⟨m, hm⟩ := k0; exact DataW.trod_lt m _ _ _ hm
  obtain ⟨l0, rd0, all0⟩ := openTwo (hval 0 22 v0 rfl rfl) k0
  have k1 := h1
  have lt1 : ∀ x ∈ p1, x.block < W.heap.size := by obtain ⟨m, hm⟩ := k1; exact DataW.trod_lt m _ _ _ hm
  obtain ⟨l1, rd1, all1, len1⟩ := Eng.open_rd2 (t := 23) (e' := 43) Tryz.underlying23 (by kernel_rfl) (fun hp cs n y h hl => decAct hp h hl) (hval 1 23 v1 rfl rfl) k1
  refine (Eng.law_calls2 (args := #[v0, v1]) prims1_ok mixed (glob W hsh hlx) (run_IdsPlays W (Eng.convA2 W.heap.size v0) l0 rd0 all0 (Eng.convA2 W.heap.size v1) l1 rd1 all1 len1)).mono fun e W' ⟨he, bel⟩ => ?_
  subst he
  exact ⟨_, rfl, _, _, _, [], _, [], hW', trodAll_mk1 (shut_bool Tryz.underlying4 _), (trodAll_cons_mk (Below.trod laidOut (by kernel_rfl) (of_decide_eq_true (by kernel_rfl)) k0 bel lt0) (trodAll_cons_mk (Below.trod laidOut (by kernel_rfl) (of_decide_eq_true (by kernel_rfl)) k1 bel lt1) trodAll_mk0)), rfl, bel.frame _, fun h => by cases h⟩

theorem over : Rows.idsPlaysRow.holds Tryz.pinned (OpenSpec.ofChange Rows.idsPlaysSpec) :=
  OpenClaim.holds_of_wide 3 Tryz.f3 rfl rfl rfl rfl rfl rfl rfl ⟨rfl, rfl, rfl, rfl, rfl⟩ rfl rfl rfl rfl rfl (by kernel_rfl) Tryz.func3 (by kernel_rfl)
    (of_decide_eq_true (by kernel_rfl)) (by unfold Func.isWrapper; first | (rw [if_pos (by decide +kernel)]; kernel_rfl) | (rw [if_neg (by decide +kernel)]; exact ⟨rfl, rfl⟩))
    (fun os started H enc _ => lifted os started H enc)
theorem proved : Rows.IdsPlaysCardSaid :=
  Claim7.holds_tied_plain_at .later [] [.data, .data, .data, .sentinel, .sentinel] true (true, "7189cbff6e198d90aaeae41de4925a36b2ba1ef32f48d8edb43747fb33ca07fb") true over (fun _ h => by cases h) (by kernel_rfl) (fun _ h => by cases h) idsPlays_row_tie rfl ⟨rfl, rfl⟩ (by kernel_rfl) rfl
    (fun f fn hf hfn => by
      obtain rfl : f = 3 := Option.some.inj ((show Tryz.prog.funcNamed "ticketline/ticketlinelaw47.IdsPlays" = some 3 by kernel_rfl).symm.trans hf) |>.symm
      obtain rfl : fn = Tryz.f3 := (Option.some.inj (Tryz.func3.symm.trans hfn)).symm
      exact ⟨by kernel_rfl, fun j t ht => by
        rw [Tryz.params3] at ht
        have hm : t ∈ [22, 23] := by simpa using Array.mem_of_getElem? ht
        have hall : ([22, 23].all fun u => !Tryz.prog.wantsStandIn u) = true := by kernel_rfl
        exact (show Tryz.prog.wantsStandIn t = false by simpa using List.all_eq_true.1 hall t hm)⟩)
    (by kernel_rfl)
#print axioms proved
end Go.Proofs.YtlfpjndbpclnnaaGreatDoor.idsPlays
namespace Go.Proofs.YtlfpjndbpclnnaaGreatDoor
/-- The card, under a short name, for the claim. -/
theorem idsPlays_card : Rows.IdsPlaysCardSaid := idsPlays.proved
end Go.Proofs.YtlfpjndbpclnnaaGreatDoor
