/-
  9 texts in one (merge.py): Ph Wv Ww Wx Wy Kp Kq Pk LawExpirePlays.
  Conditions: none. By an AI agent.
-/
import Derived.Test.YthjjkinpbpealaaLawExpirePlaysQ2
import Derived.Test.YthjjkinpbpealaaRows
import Derived.WalkKit
import Derived.ProofKit
import Derived.OpenShut
import Derived.ShutString
import Derived.ChangeOld
import Derived.Below
import Derived.SizedLaws
import Derived.ChangeArms
import Derived.Carry

/-
  Chapter 45: the law ExpirePlays: its state; calls of the store; the model is swept.
  Conditions: none. By an AI agent.
-/
set_option maxRecDepth 10000
set_option linter.unusedSimpArgs false
set_option linter.unusedVariables false
namespace Go.Proofs.Ythjjkinpbpealaa
open Go Eng
attribute [local congr] bareK_congr' bothK_congr' quietK_congr'

structure UpP (c mb : Nat) (H H' : AHeap) : Prop where
  fr : Fr (fun b => OB H c b ∨ LB H mb b) H H'
  ob : ∀ b, OB H' c b → OB H c b ∨ H.n ≤ b
  lb : ∀ b, LB H' mb b → LB H mb b ∨ H.n ≤ b
def Sp (c mb : Nat) (H : AHeap) (b : Nat) : Prop := b < H.n ∧ ¬ OB H c b ∧ ¬ LB H mb b
structure PS (c mb : Nat) (H : AHeap) (S1 : List En) (now1 : Nat) (S2 : List En) (now2 : Nat) : Prop where
  ok : Ok H
  st : ∃ m E, StR H c m E S1 now1
  lm : LM H mb S2 now2
  dj : ∀ b, OB H c b → ¬ LB H mb b

section
variable {c mb : Nat} {H H' H1 H2 : AHeap} {S1 S2 S' : List En} {now1 now2 now' : Nat}
theorem PS.lt (h : PS c mb H S1 now1 S2 now2) {b : Nat} (hb : OB H c b) : b < H.n := by
  obtain ⟨m, E, r⟩ := h.st
  exact r.lt hb
theorem PS.c_lt (h : PS c mb H S1 now1 S2 now2) : c < H.n := h.lt (.inl rfl)
theorem UpP.trans (h : PS c mb H S1 now1 S2 now2) (a : UpP c mb H H1) (b : UpP c mb H1 H2) : UpP c mb H H2 := by
  have n1 := a.fr.n
  refine ⟨a.fr.then b.fr fun x hx hh => ?_, fun x hh => ?_, fun x hh => ?_⟩
  · rcases hh with hh | hh
    · rcases a.ob x hh with hh | hh
      · exact .inl hh
      · omega
    · rcases a.lb x hh with hh | hh
      · exact .inr hh
      · omega
  · rcases b.ob x hh with hh | hh
    · exact a.ob x hh
    · exact .inr (by omega)
  · rcases b.lb x hh with hh | hh
    · exact a.lb x hh
    · exact .inr (by omega)
theorem UpP.refl (c mb : Nat) (H : AHeap) : UpP c mb H H := ⟨Fr.refl H, fun _ h => .inl h, fun _ h => .inl h⟩
theorem Sp.up {b : Nat} (h : Sp c mb H b) (u : UpP c mb H H') : Sp c mb H' b := by
  obtain ⟨h1, h2, h3⟩ := h
  have := u.fr.n
  refine ⟨by omega, fun hh => ?_, fun hh => ?_⟩
  · rcases u.ob b hh with hh | hh
    · exact h2 hh
    · omega
  · rcases u.lb b hh with hh | hh
    · exact h3 hh
    · omega
theorem Sp.not {b : Nat} (h : Sp c mb H b) : ¬ (OB H c b ∨ LB H mb b) := fun hh => hh.elim h.2.1 h.2.2
theorem Sp.f {b : Nat} (h : Sp c mb H b) (u : UpP c mb H H') : H'.f b = H.f b := u.fr.f h.1 h.not
theorem Sp.rd {α : Type} {E : Enc α} {v : Value} {l : List α} (h : ∀ b, blockOf v = some b → Sp c mb H b) (u : UpP c mb H H') (r : Rd E H v l) : Rd E H' v l := r.keep u.fr fun b hb => (h b hb).not
theorem PS.still (h : PS c mb H S1 now1 S2 now2) (s : Still H H') : PS c mb H' S1 now1 S2 now2 ∧ UpP c mb H H' := by
  obtain ⟨m, E, r⟩ := h.st
  have ho : ∀ b, OB H' c b ↔ OB H c b := fun b => ob_still h.c_lt s fun h => h
  have hl : ∀ b, LB H' mb b ↔ LB H mb b := fun b => lb_still h.lm.1 s fun h => h
  exact ⟨⟨s.ok h.ok, ⟨m, E, r.still s⟩, h.lm.still s, fun b a e => h.dj b ((ho b).1 a) ((hl b).1 e)⟩, s.still, fun b hb => .inl ((ho b).1 hb), fun b hb => .inl ((hl b).1 hb)⟩
theorem PS.new (h : PS c mb H S1 now1 S2 now2) (s : Still H H') {b : Nat} (h1 : H.n ≤ b) (h2 : b < H'.n) : Sp c mb H' b := ⟨h2, fun hh => by
    have := h.lt ((ob_still h.c_lt s fun h => h).1 hh)
    omega, fun hh => by
    have := h.lm.lt ((lb_still h.lm.1 s fun h => h).1 hh)
    omega⟩
theorem PS.upX (h : PS c mb H S1 now1 S2 now2) (u : UpX H c H') {m' : Option Nat} {E' : Ec} (r' : StR H' c m' E' S' now') : PS c mb H' S' now' S2 now2 ∧ UpP c mb H H' := by
  have hnm : ¬ OB H c mb := fun hh => h.dj mb hh (.inl rfl)
  have hl : ∀ b, LB H' mb b ↔ LB H mb b := fun b => lb_still h.lm.1 u.fr hnm
  refine ⟨⟨u.fr.ok h.ok, ⟨m', E', r'⟩, h.lm.keep u.fr fun b hb hh => h.dj b hb hh, fun b a e => ?_⟩, u.fr.mono fun b _ hb => .inl hb, u.ob, fun b hb => .inl ((hl b).1 hb)⟩
  rcases u.ob b a with a | a
  · exact h.dj b a ((hl b).1 e)
  · have := h.lm.lt ((hl b).1 e)
    omega
theorem PS.upM (h : PS c mb H S1 now1 S2 now2) (u : UpM H mb H') (r' : LM H' mb S' now') : PS c mb H' S1 now1 S' now' ∧ UpP c mb H H' := by
  obtain ⟨m, E, r⟩ := h.st
  have hcm : ¬ c = mb := fun e => h.dj c (.inl rfl) (.inl e)
  have ho : ∀ b, OB H' c b ↔ OB H c b := fun b => ob_still h.c_lt u.fr hcm
  refine ⟨⟨u.fr.ok h.ok, ⟨m, E, r.keep u.fr fun b _ e hh => h.dj b hh (.inl e)⟩, r', fun b a e => ?_⟩, u.fr.mono fun b _ hb => .inr (.inl hb), fun b hb => .inl ((ho b).1 hb), u.lb⟩
  rcases u.lb b e with e | e
  · exact h.dj b ((ho b).1 a) e
  · have := h.lt ((ho b).1 a)
    omega

theorem q_callsS {m : Option Nat} {E : Ec} {S : List En} {now : Nat} (ok : Ok H) (r : StR H c m E S now) (a : Act) : ∃ m' E' H', CC F.law_calls [pt c, .agg ⟨EAct.enc a⟩] H = some (.int .i64 (actX S now a).1, H') ∧ StR H' c m' E' (actX S now a).2.1 (actX S now a).2.2 ∧ UpX H c H' := by
  obtain ⟨H1, hH1⟩ : ∃ H1, H.push (.cells (EAct.enc a) T.law_Act true) = H1 := ⟨_, rfl⟩
  have f1 : H1.f H.n = .cells [.int .i64 a.what, .string a.key, .string a.val, .int .i64 a.n] T.law_Act true := by rw [← hH1]; exact push_f_eq rfl
  have nw : newv T.law_Act (.agg ⟨EAct.enc a⟩) H = some (.pointer (some ⟨H.n, 0, none⟩), H1) := by rw [← hH1]; rfl
  have st : Still H H1 := by rw [← hH1]; exact (Fr.refl H).push _
  have hc : c < H.n := r.lt (.inl rfl)
  have r1 := r.still st
  have ok1 := st.ok ok
  have n1 := st.n
  have fin : ∀ {e : Int} {S' : List En} {now' : Nat} {m' : Option Nat} {E' : Ec} {H2 : AHeap}, StR H2 c m' E' S' now' → UpX H1 c H2 → s_law_calls guardK condL shareL Try.prog CC (pt c) (.agg ⟨EAct.enc a⟩) H (endK Try.prog [.tmp 4]) = some (.int .i64 e, H2) →
      ∃ m' E' H', CC F.law_calls [pt c, .agg ⟨EAct.enc a⟩] H = some (.int .i64 e, H') ∧ StR H' c m' E' S' now' ∧ UpX H c H' := fun {e S' now' m' E' H2} r2 u2 run => by
    have u : UpX H c H2 := ⟨st.still.then u2.fr fun b _ hb => (ob_still hc st fun h => h).1 hb, fun b hb => by
      rcases u2.ob b hb with hb | hb
      · exact .inl ((ob_still hc st fun h => h).1 hb)
      · exact .inr (by omega)⟩
    obtain ⟨m3, E3, H3, ht, r3, u3⟩ := tidyX (v := .int .i64 e) ok r r2 u
    exact ⟨m3, E3, H3, (d_law_calls _ _ H run).trans (congrArg some ht), r3, u3⟩
  unfold actX
  by_cases h0 : a.what = 0
  · obtain ⟨m', E', H2, e1, r2, u2⟩ := q_xPut ok1 r1 a.key a.val a.n
    rw [if_pos h0]
    refine fin r2 u2 ?_
    simp (disch := first | with_reducible rfl | assumption | omega | rfl | (simp only [go_sem]; first | done | omega)) only [go_sem, ↓reduceIte, reduceCtorEq, Nat.reduceEqDiff, Nat.reduceAdd, Nat.reduceSub, Nat.reduceMul, Nat.reduceDiv, Nat.reduceMod, Nat.reduceLeDiff, Nat.reduceLT, Nat.reduceBEq, Int.reduceEq, Int.reduceBEq, Int.reduceBNe, Int.reduceLT, Int.reduceLE, Int.reduceAdd, Int.reduceSub, Int.reduceNeg, Int.reduceToNat, Int.reducePow, Nat.reducePow, Int.reduceMul, Int.reduceDiv, ↓s_law_calls, nw, f1, h0, ↓enterK_eq e1, enterK_eq e1]
  · rw [if_neg h0]
    by_cases h1 : a.what = 1
    · obtain ⟨m', E', H2, e1, r2, u2⟩ := q_xExtend ok1 r1 a.key a.n
      rw [if_pos h1]
      refine fin r2 u2 ?_
      simp (disch := first | with_reducible rfl | assumption | omega | rfl | (simp only [go_sem]; first | done | omega)) only [go_sem, ↓reduceIte, reduceCtorEq, Nat.reduceEqDiff, Nat.reduceAdd, Nat.reduceSub, Nat.reduceMul, Nat.reduceDiv, Nat.reduceMod, Nat.reduceLeDiff, Nat.reduceLT, Nat.reduceBEq, Int.reduceEq, Int.reduceBEq, Int.reduceBNe, Int.reduceLT, Int.reduceLE, Int.reduceAdd, Int.reduceSub, Int.reduceNeg, Int.reduceToNat, Int.reducePow, Nat.reducePow, Int.reduceMul, Int.reduceDiv, ↓s_law_calls, nw, f1, h0, h1, ↓enterK_eq e1, enterK_eq e1]
    · rw [if_neg h1]
      by_cases h2 : a.what = 2
      · obtain ⟨m', E', H2, e1, r2, u2⟩ := q_xDelete ok1 r1 a.key
        rw [if_pos h2]
        refine fin r2 u2 ?_
        simp (disch := first | with_reducible rfl | assumption | omega | rfl | (simp only [go_sem]; first | done | omega)) only [go_sem, ↓reduceIte, reduceCtorEq, Nat.reduceEqDiff, Nat.reduceAdd, Nat.reduceSub, Nat.reduceMul, Nat.reduceDiv, Nat.reduceMod, Nat.reduceLeDiff, Nat.reduceLT, Nat.reduceBEq, Int.reduceEq, Int.reduceBEq, Int.reduceBNe, Int.reduceLT, Int.reduceLE, Int.reduceAdd, Int.reduceSub, Int.reduceNeg, Int.reduceToNat, Int.reducePow, Nat.reducePow, Int.reduceMul, Int.reduceDiv, ↓s_law_calls, nw, f1, h0, h1, h2, ↓enterK_eq e1, enterK_eq e1]
      · rw [if_neg h2]
        obtain ⟨m', E', H2, e1, r2, u2⟩ := q_xPass ok1 r1 a.n
        refine fin r2 u2 ?_
        simp (disch := first | with_reducible rfl | assumption | omega | rfl | (simp only [go_sem]; first | done | omega)) only [go_sem, ↓reduceIte, reduceCtorEq, Nat.reduceEqDiff, Nat.reduceAdd, Nat.reduceSub, Nat.reduceMul, Nat.reduceDiv, Nat.reduceMod, Nat.reduceLeDiff, Nat.reduceLT, Nat.reduceBEq, Int.reduceEq, Int.reduceBEq, Int.reduceBNe, Int.reduceLT, Int.reduceLE, Int.reduceAdd, Int.reduceSub, Int.reduceNeg, Int.reduceToNat, Int.reducePow, Nat.reducePow, Int.reduceMul, Int.reduceDiv, ↓s_law_calls, nw, f1, h0, h1, h2, ↓enterK_eq e1, enterK_eq e1]
end

theorem act_len (S : List En) (now : Nat) (a : Act) : (actX S now a).2.1.length ≤ S.length + 1 := by
  unfold actX
  split
  · show (putX S now a.key a.val a.n).2.length ≤ _
    by_cases h : (putX S now a.key a.val a.n).1 = 0
    · rw [(putX_ok h).2]; exact ins_len_le _ _
    · rw [putX_ne h]; omega
  · split
    · show (extX S now a.key a.n).2.length ≤ _
      by_cases h : (extX S now a.key a.n).1 = 0
      · obtain ⟨_, x, hx, _⟩ := extX_ok h
        rw [hx]; exact ins_len_le _ _
      · rw [extX_ne h]; omega
    · split
      · show (delX S now a.key).2.length ≤ _
        unfold delX
        split
        · show S.length ≤ _
          omega
        · have := del_len_le S a.key
          show (delR S a.key).length ≤ _
          omega
      · show S.length ≤ _
        omega

/-- The keys that go are taken out of the model. -/
theorem l_p1 {mb : Nat} {now : Nat} {v0 v3 v5 v6 v8 : Value} {G : List ByteArray} (hl : G.length ≤ 20000) (h8 : blockOf v8 ≠ some mb) : ∀ (q : List ByteArray) (i : Nat) (S : List En) (H : AHeap), G.drop i = q → i ≤ G.length → Ok H → LM H mb S now → S.length ≤ 20000 → Rd EStr H v8 G →
    ∃ H', (∀ K, l_law_ExpirePlays_1 v0 v3 (pt mb) v5 v6 v8 (.int .i64 (i : Int)) H (blkK [0, 3, 4, 5, 6, 8] 3 K) = K .normal [(0, v0), (3, v3), (4, pt mb), (5, v5), (6, v6), (8, v8)] H') ∧ LM H' mb (sweepS S q) now ∧ UpM H mb H'
  | [], i, S, H, hd, hi, ok, r, hS, r8 => by
    have h : G.length ≤ i := List.drop_eq_nil_iff.1 hd
    have hlt : ¬ (i : Int) < (G.length : Int) := by omega
    have hlen := r8.lenS
    refine ⟨H, fun K => ?_, r, UpM.refl H mb⟩
    rw [r_law_ExpirePlays_1]
    simp (disch := first | with_reducible rfl | assumption | omega | rfl | (simp only [go_sem]; first | done | omega)) only [go_sem, ↓reduceIte, reduceCtorEq, Nat.reduceEqDiff, Nat.reduceAdd, Nat.reduceSub, Nat.reduceMul, Nat.reduceDiv, Nat.reduceMod, Nat.reduceLeDiff, Nat.reduceLT, Nat.reduceBEq, Int.reduceEq, Int.reduceBEq, Int.reduceBNe, Int.reduceLT, Int.reduceLE, Int.reduceAdd, Int.reduceSub, Int.reduceNeg, Int.reduceToNat, Int.reducePow, Nat.reducePow, Int.reduceMul, Int.reduceDiv, ↓s_law_ExpirePlays_b1, hlen, hlt]
  | k :: q, i, S, H, hd, hi, ok, r, hS, r8 => by
    have h : i < G.length := by
      rcases Nat.lt_or_ge i G.length with h | h
      · exact h
      · rw [List.drop_eq_nil_of_le h] at hd; cases hd
    have ha : G[i] = k := by rw [List.drop_eq_getElem_cons h] at hd; exact (List.cons.inj hd).1
    have hd' : G.drop (i + 1) = q := by rw [List.drop_eq_getElem_cons h] at hd; exact (List.cons.inj hd).2
    have hlt : (i : Int) < (G.length : Int) := by omega
    have hlen := r8.lenS
    obtain ⟨bb, o, ix, hbn, hcc, hbl⟩ := r8.ix (q := .i64) h
    have ix : ixS 1 v8 (.int .i64 i) = some (.pointer (some ⟨bb, o, none⟩)) := ix
    have c0 : cellB (H.f bb) o = some (.string k) := by
      have := cutB_cell hcc (i := 0) (by decide)
      rw [ha] at this
      exact this
    obtain ⟨hm, u, f0, o0, g0⟩ := id r
    have e1 := q_mfind r (by omega) k
    obtain ⟨w, H1, e2, o1, s1, hb1⟩ := q_mdel r (by omega) k
    have f1 : H1.f mb = .cells [u, .int .i64 (now : Int)] T.law_Model true := by rw [s1.f hm fun h => h]; exact f0
    have n1 := s1.n
    have hone : Eng.one w = true := o1.cell
    have hwm : blockOf w ≠ some mb := fun hh => by
      rcases hb1 mb hh with h | h
      · rcases findE_spec S k 0 with ⟨a, b, cc⟩ | ⟨j, x, a, b, cc, dd, e⟩
        · obtain ⟨v', e2', f0', _, _⟩ := q_mwithout_no r
          rw [a] at e2
          rw [e2'] at e2
          cases e2
          rw [f0] at f0'
          cases f0'
          exact g0 hh
        · obtain ⟨w', H2', e2', _, _, nb'⟩ := q_mwithout r (by omega) b
          rw [a, Nat.zero_add, e2'] at e2
          cases e2
          have := nb' mb hh
          omega
      · omega
    obtain ⟨H2, hH2⟩ : ∃ H2, H1.set mb (.cells [w, .int .i64 (now : Int)] T.law_Model true) = H2 := ⟨_, rfl⟩
    have fr2 : Fr (fun b => b = mb) H1 H2 := by rw [← hH2]; exact (Fr.refl H1).set _ _ fun _ => rfl
    have f2 : H2.f mb = .cells [w, .int .i64 (now : Int)] T.law_Model true := by rw [← hH2]; exact set_f_eq
    have n2 : H2.n = H1.n := by rw [← hH2]; rfl
    have o2 := o1.keep fr2 fun b hb h => hwm (by rw [← h]; exact hb)
    have r2 : LM H2 mb (delR S k) now := ⟨by omega, w, f2, o2, hwm⟩
    have u2 : UpM H mb H2 := ⟨s1.still.trans fr2, fun b hb => by
      rcases hb with hb | ⟨u', n', hu, hb⟩
      · exact .inl (.inl hb)
      · rw [f2] at hu
        cases hu
        exact hb1 b hb⟩
    have r82 : Rd EStr H2 v8 G := r8.keep u2.fr fun b hb h => h8 (by rw [← h]; exact hb)
    have hdl := del_len_le S k
    obtain ⟨H', k1, k2, k3⟩ := l_p1 (v0 := v0) (v3 := v3) (v5 := v5) (v6 := v6) hl h8 q (i + 1) (delR S k) H2 hd' (by omega) (u2.fr.ok ok) r2 (by omega) r82
    have n3 := u2.fr.n
    refine ⟨H', fun K => ?_, k2, ⟨u2.fr.trans k3.fr, fun b hb => ?_⟩⟩
    · have ih := k1 K
      rw [Int.natCast_add] at ih
      rw [r_law_ExpirePlays_1]
      simp (disch := first | with_reducible rfl | assumption | omega | rfl | (simp only [go_sem]; first | done | omega)) only [go_sem, ↓reduceIte, reduceCtorEq, Nat.reduceEqDiff, Nat.reduceAdd, Nat.reduceSub, Nat.reduceMul, Nat.reduceDiv, Nat.reduceMod, Nat.reduceLeDiff, Nat.reduceLT, Nat.reduceBEq, Int.reduceEq, Int.reduceBEq, Int.reduceBNe, Int.reduceLT, Int.reduceLE, Int.reduceAdd, Int.reduceSub, Int.reduceNeg, Int.reduceToNat, Int.reducePow, Nat.reducePow, Int.reduceMul, Int.reduceDiv, ↓s_law_ExpirePlays_b1, hlen, hlt, ix, c0, ↓enterK_eq e1, enterK_eq e1, ↓enterK_eq e2, enterK_eq e2, f1, hone, hH2]
      exact ih
    · rcases k3.lb b hb with h | h
      · exact u2.lb b h
      · exact .inr (by omega)

end Go.Proofs.Ythjjkinpbpealaa

/-
  Chapter 45: Copy of a store as a prim over calls.
  Conditions: none. By an AI agent.
-/
set_option maxRecDepth 10000
set_option linter.unusedSimpArgs false
set_option linter.unusedVariables false
namespace Go.Proofs.Ythjjkinpbpealaa
open Go Eng

theorem CC_ok : CallOK Try.prog CC := fun f args H v H' h hl had B ι w args' r ha => by
  obtain ⟨k, hk⟩ := D_run h
  exact call_sound prims1_ok mixed k f args H v H' hk hl had B ι w args' r ha
theorem CC_ad : CallAd CC := fun f args H v H' h hl had => by
  obtain ⟨k, hk⟩ := D_run h
  exact call_ad (fun f p hp => (prims1_ok f p hp).1) k f args H v H' hk hl had

/-- A heap that is only read. -/
def roH (H : AHeap) : AHeap := ⟨H.n, H.clk, fun b => match H.f b with | .cells xs e _ => .cells xs e false | _ => .dead, H.ver⟩
/-- What was there, and what is new. -/
def mgH (H H1 : AHeap) : AHeap := ⟨H1.n, H.clk, fun b => if b < H.n then H.f b else H1.f b, fun b => if b < H.n then H.ver b else 0⟩

noncomputable def copyP2 : List Value → AHeap → Res := fun args H => match args with
  | [.pointer none] => some (.pointer none, H)
  | [.pointer (some ⟨c, 0, none⟩)] => (match H.f c with
    | .cells [_, .map m, .int .i64 (.ofNat now)] _ _ => (match CC F.model_Model_Copy [.pointer (some ⟨c, 0, none⟩)] (roH H) with
      | some (.pointer (some ⟨g, 0, none⟩), H1) => (match (mgH H H1).f g with
        | .cells [sv] _ _ => if Eng.one sv then (match m with
          | none => some (.pointer (some ⟨H1.n, 0, none⟩), (mgH H H1).push (.cells [sv, .map none, .int .i64 (now : Int)] T.expire_Store true))
          | some b => (match H.f b with
            | .map es => (match entS es with
              | some ks => if es.length ≤ 1000000 then (if ks.isEmpty then some (.pointer (some ⟨H1.n, 0, none⟩), (mgH H H1).push (.cells [sv, .map none, .int .i64 (now : Int)] T.expire_Store true)) else
                  some (.pointer (some ⟨H1.n + 1, 0, none⟩), ((mgH H H1).push (.map es)).push (.cells [sv, .map (some H1.n), .int .i64 (now : Int)] T.expire_Store true))) else none
              | none => none)
            | _ => none)) else none
        | _ => none)
      | _ => none)
    | _ => none)
  | _ => none

/-! ### the heap in which all is forgotten but the new store -/
def HK (n : Nat) (sv : Value) (now : Int) : AHeap := ⟨n + 1, 1, fun b => if b = n then .cells [sv, .map none, .int .i64 now] T.expire_Store true else .dead, fun _ => 0⟩
def Lo (o : Nat) : Eng.Loc := ⟨o, 0, 3, 3⟩
theorem HK_cl {n : Nat} {sv : Value} {now : Int} (h : AD n sv) : Eng.Cl (HK n sv now) := by
  refine ⟨fun b xs e rw hf v hv => ?_, fun b es hf => ?_, fun b => Nat.zero_lt_one⟩
  · unfold HK at hf
    simp only at hf
    split at hf
    · cases hf
      rcases List.mem_cons.1 hv with rfl | hv
      · exact h.mono (Nat.le_succ n)
      · rcases List.mem_cons.1 hv with rfl | hv
        · exact .nilm
        · rw [List.mem_singleton.1 hv]; exact .int _ _
    · cases hf
  · unfold HK at hf
    simp only at hf
    split at hf <;> cases hf
theorem st_rb {B : Nat} {ι : Emb} {w : World} {o : Nat} {sv svc : Value} {now : Int} (hB : B ≤ o) (hw : w.heap[o]? = some (stObj svc now)) (h : RV ι sv svc) : RB Try.prog B ι w (Lo o) (.cells [sv, .map none, .int .i64 now] T.expire_Store true) := by
  refine ⟨#[svc, .map none, .int .i64 now], 29, (0, 0), hw, rfl, Nat.le_refl _, fun i v hv => ?_, fun _ => ⟨hB, rfl, by kernel_rfl, fun j _ => by simp⟩⟩
  match i, hv with
  | 0, hv => cases hv; exact ⟨svc, rfl, h⟩
  | 1, hv => cases hv; exact ⟨_, rfl, .nilm⟩
  | 2, hv => cases hv; exact ⟨_, rfl, .int _ _⟩
theorem HK_rel {B : Nat} {ι1 : Emb} {H1 : AHeap} {w1 w : World} {sv svc : Value} {now : Int} (r : Rel Try.prog B ι1 H1 w1) (hs : w1.heap.size < w.heap.size) (hold : ∀ c, c < w1.heap.size → w.heap[c]? = w1.heap[c]?) (hw : w.heap[w1.heap.size]? = some (stObj svc now)) (h : RV ι1 sv svc) :
    Rel Try.prog B (up ι1 H1.n (Lo w1.heap.size)) (HK H1.n sv now) w := by
  have hup := up_ext r (Lo w1.heap.size)
  refine ⟨fun b L hb => ?_, fun b L hb => ?_, fun b c L M hb hc hne ho ha => ?_, by have := r.base; omega, fun b => Nat.zero_lt_one, r.glob.keep (Nat.le_refl _) fun c hc => hold c (Nat.lt_of_lt_of_le hc r.base)⟩
  · by_cases e : b = H1.n
    · subst e
      simp [up] at hb
      subst hb
      show RB Try.prog B _ w _ (if H1.n = H1.n then _ else _)
      rw [if_pos rfl]
      exact st_rb r.base hw (h.mono hup)
    · show RB Try.prog B _ w _ (if b = H1.n then _ else _)
      rw [if_neg e]
      trivial
  · by_cases e : b = H1.n
    · subst e
      simp [up] at hb
      subst hb
      exact ⟨Nat.lt_succ_self _, hs⟩
    · simp [up, e] at hb
      have := r.lt b L hb
      exact ⟨Nat.lt_succ_of_lt this.1, Nat.lt_trans this.2 hs⟩
  · have h1 : b = H1.n := by
      by_cases e : b = H1.n
      · exact e
      · have ho : owned (if b = H1.n then Blk.cells [sv, .map none, .int .i64 now] T.expire_Store true else .dead) = true := ho
        rw [if_neg e] at ho
        cases ho
    have h2 : c = H1.n := by
      by_cases e : c = H1.n
      · exact e
      · have ha : alive (if c = H1.n then Blk.cells [sv, .map none, .int .i64 now] T.expire_Store true else .dead) = true := ha
        rw [if_neg e] at ha
        cases ha
    exact absurd (h1.trans h2.symm) hne

/-- The new store, after some of the keys. -/
structure CInv (B : Nat) (ι1 : Emb) (H1 : AHeap) (w1 : World) (sv : Value) (now : Int) (D0 : DataW Unit) (ss : List (List UInt8)) (w : World) : Prop where
  st : ∃ (ι : Emb) (H : AHeap) (m : Option Nat) (E : Ec), Rel Try.prog B ι H w ∧ Eng.Cl H ∧ H1.n < H.n ∧ ι H1.n = some (Lo w1.heap.size) ∧ (∀ b, b < H1.n → ι b = ι1 b) ∧ H.f H1.n = .cells [sv, .map m, .int .i64 now] T.expire_Store true ∧ MapIs H H1.n m E ∧ (ss = [] → m = none) ∧
    (∀ mb, m = some mb → ∃ L, ι mb = some L ∧ w1.heap.size + 2 ≤ L.cb) ∧ (∀ b L, ι b = some L → H.f b = .dead ∨ L.cb = w1.heap.size ∨ w1.heap.size + 2 ≤ L.cb) ∧ (E.map (·.1)).Nodup ∧ ∀ (k : ByteArray) (n : Nat), lkp E k = some n ↔ k.data.toList ∈ ss ∧ (n : Int) = Go.Proofs.Ythjjkinpbpealaa.numD D0 k.data.toList
  old : ∀ c, c < w1.heap.size → w.heap[c]? = w1.heap[c]?
  sz : w1.heap.size + 2 ≤ w.heap.size
  os : w.os = w1.os
  tape : w.tape = w1.tape
  output : w.output = w1.output

theorem cinv0 {B : Nat} {ι1 : Emb} {H1 : AHeap} {w1 w : World} {sv svc : Value} {now : Int} {D0 : DataW Unit} (r : Rel Try.prog B ι1 H1 w1) (ad : AD H1.n sv) (h : RV ι1 sv svc) (hg : (w1.alloc (stObj svc now)).grownBy w none) (hsz : w1.heap.size + 2 ≤ w.heap.size) : CInv B ι1 H1 w1 sv now D0 [] w := by
  have hs : (w1.alloc (stObj svc now)).heap.size = w1.heap.size + 1 := by simp
  have hold : ∀ c, c < w1.heap.size → w.heap[c]? = w1.heap[c]? := fun c hc => (hg.block c (by omega) (by simp)).trans (((RowKit.Below.refl w1.heap.size w1).alloc (Nat.le_refl _) (stObj svc now)).block c hc)
  have hw : w.heap[w1.heap.size]? = some (stObj svc now) := (hg.block _ (by omega) (by simp)).trans (MapKept.heap_alloc w1 _).1
  refine ⟨⟨up ι1 H1.n (Lo w1.heap.size), HK H1.n sv now, none, [], HK_rel r (by omega) hold hw h, HK_cl ad, Nat.lt_succ_self _, by simp [up], fun b hb => (by simp [up, Nat.ne_of_lt hb]), ?_, rfl, fun _ => rfl, fun mb e => (by cases e), fun b L hb => ?_, by simp, fun k n => ⟨fun hh => (by cases hh), fun hh => (by cases hh.1)⟩⟩, hold, hsz, hg.os, hg.tape, hg.output⟩
  · show (if H1.n = H1.n then _ else _) = _
    rw [if_pos rfl]
  · by_cases e : b = H1.n
    · subst e
      simp [up] at hb
      subst hb
      exact .inr (.inl rfl)
    · refine .inl ?_
      show (if b = H1.n then _ else _) = _
      rw [if_neg e]

theorem cinv_step {B : Nat} {ι1 : Emb} {H1 : AHeap} {w1 w w2 : World} {sv : Value} {now : Int} {D0 : DataW Unit} {ss : List (List UInt8)} (c : CInv B ι1 H1 w1 sv now D0 ss w) (hg : w.grownBy w2 (some (w1.heap.size + 1))) : CInv B ι1 H1 w1 sv now D0 ss w2 := by
  obtain ⟨⟨ι, H, m, E, r, hl, h1, h2, h3, h4, h5, h6, h7, h8, h9, h10⟩, c1, c2, c3, c4, c5⟩ := c
  have hs := hg.size
  have same : ∀ k, k < w.heap.size → k ≠ w1.heap.size + 1 → w2.heap[k]? = w.heap[k]? := fun k hk hne => hg.block k hk (fun e => hne (Option.some.inj e))
  refine ⟨⟨ι, H, m, E, ⟨fun b L hb => ?_, fun b L hb => ⟨(r.lt b L hb).1, Nat.lt_of_lt_of_le (r.lt b L hb).2 hs⟩, r.inj, Nat.le_trans r.base hs, r.ver, ?_⟩, hl, h1, h2, h3, h4, h5, h6, h7, h8, h9, h10⟩, fun k hk => (same k (by omega) (by omega)).trans (c1 k hk), by omega, hg.os.trans c3, hg.tape.trans c4, hg.output.trans c5⟩
  · rcases h8 b L hb with h | h
    · rw [h]; trivial
    · exact (r.blk b L hb).keep (same _ (r.lt b L hb).2 (by omega))
  · refine r.glob.keep (Nat.le_refl _) fun k hk => same k (by have := r.base; omega) ?_
    have hB : B ≤ w1.heap.size := by
      have := r.blk _ _ h2
      rw [h4] at this
      obtain ⟨_, _, _, _, _, _, _, h⟩ := this
      exact (h rfl).1
    omega

end Go.Proofs.Ythjjkinpbpealaa

/-
  Chapter 45: Copy of a store as a prim over calls: set, and what the copy is.
  Conditions: none. By an AI agent.
-/
set_option maxRecDepth 10000
set_option linter.unusedSimpArgs false
set_option linter.unusedVariables false
namespace Go.Proofs.Ythjjkinpbpealaa
open Go Eng

theorem dead_of {k : Blk} (h : ¬ alive k = true) : k = .dead := by
  cases k with
  | dead => rfl
  | cells xs e rw => exact absurd rfl h
  | map es => exact absurd rfl h
  | siter s p => exact absurd rfl h

theorem cinv_set {B : Nat} {ι1 : Emb} {H1 : AHeap} {w1 w : World} {sv : Value} {now : Nat} {D0 : DataW Unit} {ss : List (List UInt8)} (hone : Eng.one sv = true) (c : CInv B ι1 H1 w1 sv (now : Int) D0 ss w) (x : List UInt8) (n : Nat) (hn : 0 < n) (hD : Go.Proofs.Ythjjkinpbpealaa.numD D0 x = (n : Int)) :
    Calls Try.prog 33 #[.pointer (some ⟨w1.heap.size, 0, none⟩), encStr x, .int .i64 (n : Int)] w fun e w3 => e = .returned (.tuple #[]) ∧ CInv B ι1 H1 w1 sv (now : Int) D0 (ss ++ [x]) w3 ∧ ∀ k, k < w1.heap.size ∨ k = w1.heap.size + 1 → w3.heap[k]? = w.heap[k]? := by
  obtain ⟨⟨ι, H, m, E, r, hl, h1, h2, h3, h4, h5, h6, h7, h8, h9, h10⟩, c1, c2, c3, c4, c5⟩ := c
  obtain ⟨m', H', e1, f', mi', fr, hm'⟩ := q_xset (now := (now : Int)) ⟨x.toArray⟩ n hl.ver h1 h4 hone h5
  have had : ADs H.n [.pointer (some ⟨H1.n, 0, none⟩), .string ⟨x.toArray⟩, .int .i64 (n : Int)] := .cons (.ptr h1) (.cons (.str _) (.cons (.int _ _) .nil))
  have hcl := (CC_ad _ _ _ _ _ e1 hl had).1
  have hc := CC_ok _ _ _ _ _ e1 hl had B ι w [.pointer (some ⟨(Lo w1.heap.size).cb, (Lo w1.heap.size).base + 0, none⟩), .string ⟨x.toArray⟩, .int .i64 (n : Int)] r (.cons (.ptr h2) (.cons (.str _) (.cons (.int _ _) .nil)))
  refine Calls.mono hc ?_
  rintro e w3 ⟨v', ι', rfl, hv, r3, s3⟩
  have hv0 : v' = .tuple #[] := gr_eq (n := 1) rfl hv
  subst hv0
  have hsame : ∀ k, k < w1.heap.size ∨ k = w1.heap.size + 1 → w3.heap[k]? = w.heap[k]? := fun k hk => s3.fr k (by omega) fun b L hb ho => by
    rcases h8 b L hb with h | h
    · rw [h] at ho; cases ho
    · omega
  have hn' := s3.hn
  have hid : ι' H1.n = some (Lo w1.heap.size) := (s3.ext _ h1).trans h2
  have hall : ∀ b L, ι' b = some L → H'.f b = .dead ∨ L.cb = w1.heap.size ∨ w1.heap.size + 2 ≤ L.cb := fun b L hb => by
    by_cases hlt : b < H.n
    · have hb' : ι b = some L := (s3.ext b hlt).symm.trans hb
      rcases h8 b L hb' with h | h
      · refine .inl (dead_of fun ha => ?_)
        have := s3.vo.live b hlt ha
        rw [h] at this
        cases this
      · exact .inr h
    · rcases s3.new b L (by omega) hb with h | ⟨b0, L0, hb0, hι, ho, he⟩
      · exact .inr (.inr (by omega))
      · rcases h8 b0 L0 hι with h | h
        · rw [h] at ho; cases ho
        · exact .inr (by rw [← he]; exact h)
  refine ⟨rfl, ⟨⟨ι', H', m', setE E ⟨x.toArray⟩ n, r3, hcl, by omega, hid, fun b hb => (s3.ext b (by omega)).trans (h3 b hb), f', mi', fun h => (by simp at h), fun mb hmb => ?_, hall, nd_set h9 _ _, fun k j => ?_⟩, fun k hk => (hsame k (.inl hk)).trans (c1 k hk), by have := s3.wn; omega, s3.os.trans c3, s3.tape.trans c4, s3.output.trans c5⟩, hsame⟩
  · have hRB := r3.blk _ _ hid
    rw [f', hmb] at hRB
    obtain ⟨cs, e', fz, hw, _, _, hcs, _⟩ := hRB
    obtain ⟨v1, hv1, hrv⟩ := hcs 1 (.map (some mb)) rfl
    cases hrv with
    | map hL =>
      rename_i L
      refine ⟨L, hL, ?_⟩
      rcases hm' mb hmb with h | ⟨h, h'⟩
      · obtain ⟨L', hL', hge⟩ := h7 mb h
        have hlt := (r.lt mb L' hL').1
        have : ι' mb = some L' := (s3.ext mb hlt).trans hL'
        rw [this] at hL
        cases hL
        exact hge
      · rcases s3.new mb L h hL with hh | ⟨b0, L0, hb0, hι, ho, he⟩
        · omega
        · rcases h8 b0 L0 hι with hd | hd | hd
          · rw [hd] at ho; cases ho
          · exfalso
            have hmi := mi'
            rw [hmb] at hmi
            obtain ⟨q1, q2, q3⟩ := hmi
            have hne : (Lo w1.heap.size).cb ≠ L.cb := r3.inj _ _ _ _ hid hL (fun e => q3 e.symm) (by rw [f']; rfl) (by rw [q1]; rfl)
            exact hne (by rw [← he, hd]; rfl)
          · omega
  · rw [lkp_set]
    by_cases hk : (⟨x.toArray⟩ : ByteArray) = k
    · rw [if_pos hk, if_neg (by omega)]
      subst hk
      constructor
      · intro h
        cases h
        exact ⟨by simp, hD.symm⟩
      · rintro ⟨_, h⟩
        have h : (j : Int) = Go.Proofs.Ythjjkinpbpealaa.numD D0 x := h
        rw [hD] at h
        congr 1
        omega
    · rw [if_neg hk, h10]
      have hx : ¬ k.data.toList = x := fun e => hk (by rw [← e])
      simp [hx]

/-! ### what the copy is -/
section
variable {B : Nat} {ι ι1 : Emb} {H H1 : AHeap} {w w1 wf : World} {sv : Value} {now : Int}
theorem fin_one (s1 : Stp ι H w ι1 H1 w1) (r1 : Rel Try.prog B ι1 H1 w1) (hold : ∀ c, c < w1.heap.size → wf.heap[c]? = w1.heap[c]?) (hsz : w1.heap.size < wf.heap.size) (os : wf.os = w1.os) (tp : wf.tape = w1.tape) (ou : wf.output = w1.output)
    (hrb : RB Try.prog B ι1 wf (Lo w1.heap.size) (.cells [sv, .map none, .int .i64 now] T.expire_Store true)) :
    ∃ ι', RV ι' (.pointer (some ⟨H1.n, 0, none⟩)) (.pointer (some ⟨w1.heap.size, 0, none⟩)) ∧ Rel Try.prog B ι' (H1.push (.cells [sv, .map none, .int .i64 now] T.expire_Store true)) wf ∧ Stp ι H w ι' (H1.push (.cells [sv, .map none, .int .i64 now] T.expire_Store true)) wf := by
  have hbl : RowKit.Below w1.heap.size w1 wf := ⟨os, tp, ou, Nat.le_of_lt hsz, hold⟩
  obtain ⟨a1, a2⟩ := r1.pushB hbl _ (Lo w1.heap.size) (Nat.le_refl _) hsz hrb
  refine ⟨_, ?_, a1, s1.trans a2⟩
  have h : RV (up ι1 H1.n (Lo w1.heap.size)) (.pointer (some ⟨H1.n, 0, none⟩)) (.pointer (some ⟨(Lo w1.heap.size).cb, (Lo w1.heap.size).base + 0, none⟩)) := .ptr (by simp [up])
  exact h

theorem fin_two (s1 : Stp ι H w ι1 H1 w1) (r1 : Rel Try.prog B ι1 H1 w1) (hold : ∀ c, c < w1.heap.size → wf.heap[c]? = w1.heap[c]?) (hsz : w1.heap.size < wf.heap.size) (os : wf.os = w1.os) (tp : wf.tape = w1.tape) (ou : wf.output = w1.output)
    {es : List (Value × Value)} {Lm : Eng.Loc} (hm1 : w1.heap.size + 2 ≤ Lm.cb) (hm2 : Lm.cb < wf.heap.size) (hmb : RB Try.prog B ι1 wf Lm (.map es))
    (hrb : RB Try.prog B (up ι1 H1.n Lm) wf (Lo w1.heap.size) (.cells [sv, .map (some H1.n), .int .i64 now] T.expire_Store true)) :
    ∃ ι', RV ι' (.pointer (some ⟨H1.n + 1, 0, none⟩)) (.pointer (some ⟨w1.heap.size, 0, none⟩)) ∧ Rel Try.prog B ι' ((H1.push (.map es)).push (.cells [sv, .map (some H1.n), .int .i64 now] T.expire_Store true)) wf ∧
      Stp ι H w ι' ((H1.push (.map es)).push (.cells [sv, .map (some H1.n), .int .i64 now] T.expire_Store true)) wf := by
  have hbl : RowKit.Below w1.heap.size w1 wf := ⟨os, tp, ou, Nat.le_of_lt hsz, hold⟩
  obtain ⟨a1, a2⟩ := r1.pushB hbl _ Lm (by omega) hm2 hmb
  have hB : B ≤ w1.heap.size := r1.base
  have a3 := a1.lay _ (Lo w1.heap.size) hsz (Nat.le_refl _) hrb (fun b M hb _ => by
    by_cases e : b = H1.n
    · subst e
      simp [up] at hb
      subst hb
      show Lm.cb ≠ w1.heap.size
      omega
    · simp [up, e] at hb
      have := (r1.lt b M hb).2
      show M.cb ≠ w1.heap.size
      omega) hB (fun c _ _ => rfl)
  have s2 := s1.trans a2
  have hx : ∀ b, b < H1.n + 1 → up (up ι1 H1.n Lm) (H1.push (.map es)).n (Lo w1.heap.size) b = up ι1 H1.n Lm b := fun b hb => by
    have : b ≠ (H1.push (.map es)).n := by show b ≠ H1.n + 1; omega
    simp only [up]
    rw [if_neg this]
  have hHn := s1.hn
  have hwn := s1.wn
  refine ⟨_, ?_, a3, ⟨fun b hb => (hx b (by omega)).trans (s2.ext b hb), Nat.le_trans s2.hn (by simp), s2.wn, s2.os, s2.tape, s2.output, s2.fr, fun b L hb h => ?_, fun b L hb hι ho => ?_, s2.vo.trans (VO.push _ _)⟩⟩
  · have h : RV (up (up ι1 H1.n Lm) (H1.push (.map es)).n (Lo w1.heap.size)) (.pointer (some ⟨H1.n + 1, 0, none⟩)) (.pointer (some ⟨(Lo w1.heap.size).cb, (Lo w1.heap.size).base + 0, none⟩)) := .ptr (by simp [up])
    exact h
  · by_cases e : b < H1.n + 1
    · rw [hx b e] at h
      exact s2.new b L hb h
    · by_cases e2 : b = H1.n + 1
      · subst e2
        have : up (up ι1 H1.n Lm) (H1.push (.map es)).n (Lo w1.heap.size) (H1.n + 1) = some (Lo w1.heap.size) := by simp [up]
        rw [this] at h
        cases h
        exact .inl hwn
      · have := (a3.lt b L h).1
        have h2 : ((H1.push (.map es)).push (.cells [sv, .map (some H1.n), .int .i64 now] T.expire_Store true)).n = H1.n + 2 := rfl
        omega
  · refine s2.own b L hb hι ?_
    rwa [AHeap.push_old _ _ (by show b ≠ H1.n + 1; omega)] at ho
end

end Go.Proofs.Ythjjkinpbpealaa

/-
  Chapter 45: Copy of a store as a prim over calls: a heap that is only read; the prim.
  Conditions: none. By an AI agent.
-/
set_option maxRecDepth 10000
set_option linter.unusedSimpArgs false
set_option linter.unusedVariables false
namespace Go.Proofs.Ythjjkinpbpealaa
open Go Eng

theorem ro_cl {H : AHeap} (h : Eng.Cl H) : Eng.Cl (roH H) := by
  refine ⟨fun b xs e rw hf => ?_, fun b es hf => ?_, h.ver⟩
  · have hf : (match H.f b with | .cells xs e _ => Blk.cells xs e false | _ => .dead) = .cells xs e rw := hf
    cases hb : H.f b with
    | cells ys e' rw' =>
      rw [hb] at hf
      cases hf
      exact h.cells b _ _ _ hb
    | map es => rw [hb] at hf; cases hf
    | siter s p => rw [hb] at hf; cases hf
    | dead => rw [hb] at hf; cases hf
  · have hf : (match H.f b with | .cells xs e _ => Blk.cells xs e false | _ => .dead) = .map es := hf
    cases hb : H.f b with
    | cells ys e' rw' => rw [hb] at hf; cases hf
    | map es => rw [hb] at hf; cases hf
    | siter s p => rw [hb] at hf; cases hf
    | dead => rw [hb] at hf; cases hf
theorem ro_own (H : AHeap) (b : Nat) : owned ((roH H).f b) = false := by
  show owned (match H.f b with | .cells xs e _ => Blk.cells xs e false | _ => .dead) = false
  cases H.f b <;> rfl
theorem ro_rel {B : Nat} {ι : Emb} {H : AHeap} {w : World} (r : Rel Try.prog B ι H w) : Rel Try.prog B ι (roH H) w := by
  refine ⟨fun b L h => ?_, r.lt, fun b c L M _ _ _ ho _ => (by rw [ro_own] at ho; cases ho), r.base, r.ver, r.glob⟩
  have hb := r.blk b L h
  show RB Try.prog B ι w L (match H.f b with | .cells xs e _ => Blk.cells xs e false | _ => .dead)
  cases hf : H.f b with
  | cells xs e rw =>
    rw [hf] at hb
    obtain ⟨cs, e', fr, h1, h2, h3, h4, _⟩ := hb
    exact ⟨cs, e', fr, h1, h2, h3, h4, fun h => by cases h⟩
  | map es => trivial
  | siter s p => trivial
  | dead => trivial
theorem mg_cl {H H1 : AHeap} (h : Eng.Cl H) (h1 : Eng.Cl H1) (hn : H.n ≤ H1.n) : Eng.Cl (mgH H H1) := by
  refine ⟨fun b xs e rw hf => ?_, fun b es hf => ?_, fun b => ?_⟩
  · have hf : (if b < H.n then H.f b else H1.f b) = .cells xs e rw := hf
    split at hf
    · exact (h.cells b _ _ _ hf).mono hn
    · exact h1.cells b _ _ _ hf
  · have hf : (if b < H.n then H.f b else H1.f b) = .map es := hf
    split at hf
    · exact fun p hp => (h.maps b _ hf p hp).mono hn
    · exact h1.maps b _ hf
  · show (if b < H.n then H.ver b else 0) < H.clk
    split
    · exact h.ver b
    · exact Nat.lt_of_le_of_lt (Nat.zero_le _) (h.ver b)
theorem mg_vo {H H1 : AHeap} (hn : H.n ≤ H1.n) : VO H (mgH H H1) := by
  have hf : ∀ b, b < H.n → (mgH H H1).f b = H.f b := fun b hb => by
    show (if b < H.n then H.f b else H1.f b) = _
    rw [if_pos hb]
  refine ⟨hn, Nat.le_refl _, fun b hb => .inl ⟨?_, hf b hb⟩, fun b hb h => by rwa [hf b hb] at h⟩
  show (if b < H.n then H.ver b else 0) = _
  rw [if_pos hb]
theorem mg_rel {B : Nat} {ι ι1 : Emb} {H H1 : AHeap} {w w1 : World} (r : Rel Try.prog B ι H w) (r1 : Rel Try.prog B ι1 H1 w1) (s : Stp ι (roH H) w ι1 H1 w1) : Rel Try.prog B ι1 (mgH H H1) w1 ∧ Stp ι H w ι1 (mgH H H1) w1 ∧ RowKit.Below w.heap.size w w1 := by
  have hn : H.n ≤ H1.n := s.hn
  have same : ∀ c, c < w.heap.size → w1.heap[c]? = w.heap[c]? := fun c hc => s.fr c hc fun b L _ ho => by rw [ro_own] at ho; cases ho
  have hext : ∀ b, b < H.n → ι1 b = ι b := fun b hb => s.ext b hb
  have hnew : ∀ b L, H.n ≤ b → ι1 b = some L → w.heap.size ≤ L.cb := fun b L hb h => by
    rcases s.new b L hb h with h | ⟨b0, L0, _, _, ho, _⟩
    · exact h
    · rw [ro_own] at ho; cases ho
  have hold : ∀ b L, b < H.n → ι1 b = some L → L.cb < w.heap.size := fun b L hb h => (r.lt b L ((hext b hb).symm.trans h)).2
  have f1 : ∀ b, b < H.n → (mgH H H1).f b = H.f b := fun b hb => by
    show (if b < H.n then H.f b else H1.f b) = _
    rw [if_pos hb]
  have f2 : ∀ b, ¬ b < H.n → (mgH H H1).f b = H1.f b := fun b hb => by
    show (if b < H.n then H.f b else H1.f b) = _
    rw [if_neg hb]
  refine ⟨⟨fun b L h => ?_, r1.lt, fun b c L M hb hc hne ho ha => ?_, Nat.le_trans r.base s.wn, fun b => ?_, r.glob.keep (Nat.le_refl _) fun c hc => same c (Nat.lt_of_lt_of_le hc r.base)⟩,
    ⟨hext, hn, s.wn, s.os, s.tape, s.output, fun c hc _ => same c hc, fun b L hb h => .inl (hnew b L hb h), fun b L hb _ ho => by rwa [f1 b hb] at ho, mg_vo hn⟩, ⟨s.os, s.tape, s.output, s.wn, same⟩⟩
  · by_cases hb : b < H.n
    · rw [f1 b hb]
      have hι := (hext b hb).symm.trans h
      exact ((r.blk b L hι).keep (same _ (r.lt b L hι).2)).mono fun b' L' h' => (hext b' (r.lt b' L' h').1).trans h'
    · rw [f2 b hb]
      exact r1.blk b L h
  · by_cases hb' : b < H.n
    · by_cases hc' : c < H.n
      · rw [f1 b hb'] at ho
        rw [f1 c hc'] at ha
        exact r.inj b c L M ((hext b hb').symm.trans hb) ((hext c hc').symm.trans hc) hne ho ha
      · have := hold b L hb' hb
        have := hnew c M (by omega) hc
        omega
    · by_cases hc' : c < H.n
      · have := hold c M hc' hc
        have := hnew b L (by omega) hb
        omega
      · rw [f2 b hb'] at ho
        rw [f2 c hc'] at ha
        exact r1.inj b c L M hb hc hne ho ha
  · show (if b < H.n then H.ver b else 0) < H.clk
    split
    · exact r.ver b
    · exact Nat.lt_of_le_of_lt (Nat.zero_le _) (r.ver b)

theorem copy2_ad : CallAd fun _ args H => copyP2 args H := by
  intro _ args H v H' h hl had
  replace h : copyP2 args H = some (v, H') := h
  unfold copyP2 at h
  split at h
  · cases h; exact OkV.still hl .nilp
  · rename_i c
    split at h
    · rename_i v0 m now e0 rw0 hf
      split at h
      · rename_i g H1 hMC
        have hok := CC_ad _ _ _ _ _ hMC (ro_cl hl) had
        have hn : H.n ≤ H1.n := hok.2.2.n
        have hcl := mg_cl hl hok.1 hn
        have hvo := mg_vo (H := H) (H1 := H1) hn
        split at h
        · rename_i sv e1 rw1 hg
          have hsv : AD H1.n sv := hcl.cells _ _ _ _ hg sv (by simp)
          have push1 : OkV H ((mgH H H1).push (.cells [sv, .map none, .int .i64 (now : Int)] T.expire_Store true)) (.pointer (some ⟨H1.n, 0, none⟩)) := by
            refine ⟨hcl.push (fun xs e rw hk => ?_) (fun es hk => by cases hk), .ptr (Nat.lt_succ_self _), hvo.trans (VO.push _ _)⟩
            cases hk
            exact .cons (hsv.mono (Nat.le_succ _)) (.cons .nilm (.cons (.int _ _) .nil))
          split at h
          · split at h
            · cases h; exact push1
            · rename_i b
              split at h
              · rename_i es hes
                split at h
                · rename_i ks hks
                  split at h
                  · split at h
                    · cases h; exact push1
                    · cases h
                      have h1 := (entS_some hks).1
                      refine ⟨(hcl.push (fun xs e rw hk => by cases hk) (fun es' hk p hp => ?_)).push (fun xs e rw hk => ?_) (fun es hk => by cases hk), .ptr (Nat.lt_succ_self _), (hvo.trans (VO.push _ _)).trans (VO.push _ _)⟩
                      · cases hk
                        rw [h1] at hp
                        obtain ⟨k, _, rfl⟩ := List.mem_map.1 hp
                        exact .int _ _
                      · cases hk
                        exact .cons (hsv.mono (by show H1.n ≤ H1.n + 1 + 1; omega)) (.cons (.map (by show H1.n < H1.n + 1 + 1; omega)) (.cons (.int _ _) .nil))
                  · cases h
                · cases h
              · cases h
          · cases h
        · cases h
      · cases h
    · cases h
  · cases h

end Go.Proofs.Ythjjkinpbpealaa

/-
  Chapter 45: Copy of a store as a prim over calls: it is sound.
  Conditions: none. By an AI agent.
-/
set_option maxRecDepth 10000
set_option linter.unusedSimpArgs false
set_option linter.unusedVariables false
namespace Go.Proofs.Ythjjkinpbpealaa
open Go Eng

theorem drew_rel {B : Nat} {ι : Emb} {H : AHeap} {w : World} (r : Rel Try.prog B ι H w) (q : Nat) : Rel Try.prog B ι H (w.drewN q) := ⟨r.blk, r.lt, r.inj, r.base, r.ver, r.glob⟩
theorem drew_stp {ι ι' : Emb} {H H' : AHeap} {w w' : World} {q : Nat} (s : Stp ι H (w.drewN q) ι' H' w') : Stp ι H w ι' H' w' := ⟨s.ext, s.hn, s.wn, s.os, s.tape, s.output, s.fr, s.new, s.own, s.vo⟩

/-- What the first callee leaves. -/
structure CQ (B : Nat) (ι : Emb) (H H1 : AHeap) (w : World) (sv : Value) (svc : Value) (w1 : World) : Prop where
  ex : ∃ ι1, Rel Try.prog B ι1 (mgH H H1) w1 ∧ Stp ι H w ι1 (mgH H H1) w1 ∧ RV ι1 sv svc

theorem first_call {B : Nat} {ι : Emb} {H H1 : AHeap} {w : World} {c g : Nat} {sv : Value} {L : Eng.Loc} {e1 : TypeId} {rw1 : Bool} (r : Rel Try.prog B ι H w) (hl : Eng.Cl H) (hL : ι c = some L) (had : ADs H.n [.pointer (some ⟨c, 0, none⟩)])
    (hMC : CC F.model_Model_Copy [.pointer (some ⟨c, 0, none⟩)] (roH H) = some (.pointer (some ⟨g, 0, none⟩), H1)) (hg : (mgH H H1).f g = .cells [sv] e1 rw1) (q : Nat) :
    Calls Try.prog 43 #[.pointer (some ⟨L.cb, L.base + 0, none⟩)] (w.drewN q) fun e w' => ∃ g go svc, e = .returned (.pointer (some ⟨g, go, none⟩)) ∧ w'.cell? ⟨g, go, none⟩ = some svc ∧ RowKit.Below w.heap.size w w' ∧ CQ B ι H H1 w sv svc w' := by
  have hq := CC_ok _ _ _ _ _ hMC (ro_cl hl) had B ι (w.drewN q) [.pointer (some ⟨L.cb, L.base + 0, none⟩)] (drew_rel (ro_rel r) q) (.cons (.ptr hL) .nil)
  refine Calls.mono hq ?_
  rintro e w' ⟨v', ι', rfl, hv, r1, s1⟩
  obtain ⟨a1, a2, a3⟩ := mg_rel r r1 (drew_stp s1)
  cases hv with
  | ptr hLg =>
    rename_i Lg
    have hb := a1.blk _ _ hLg
    rw [hg] at hb
    obtain ⟨cs, e', fr, hw, hsz, hle, hcs, _⟩ := hb
    obtain ⟨svc, hsv, hrv⟩ := hcs 0 sv rfl
    exact ⟨_, _, svc, rfl, by simpa [World.cell?, hw] using hsv, a3, ⟨ι', a1, a2, hrv⟩⟩

theorem copy2_ok : CallOK Try.prog fun h args H => if h = 26 then copyP2 args H else none := by
  intro k args H v H' h2 hl had B ι w args' r ha
  by_cases hg : k = 26
  · subst hg
    simp only [if_true] at h2
    unfold copyP2 at h2
    split at h2
    · cases h2
      cases ha with
      | cons a b =>
        cases a
        cases b
        refine Calls.mono (copy_nilptr w) ?_
        rintro e w' ⟨rfl, rfl⟩
        exact ⟨_, ι, rfl, .nilp, r, Stp.refl _ _ _ r.dom⟩
    · rename_i c
      split at h2
      · rename_i v0 m now e0 rw0 hf
        split at h2
        · rename_i g H1 hMC
          split at h2
          · rename_i sv e1 rw1 hg
            split at h2
            · rename_i hone
              cases ha with
              | cons a b =>
                cases b
                cases a with
                | ptr hL =>
                  rename_i L
                  have hb := r.blk _ _ hL
                  rw [hf] at hb
                  obtain ⟨cs, e', fr, hw, hsz, hle, hcs, _⟩ := hb
                  obtain ⟨vm, hvm, hrm⟩ := hcs 1 (.map m) rfl
                  obtain ⟨vn, hvn, hrn⟩ := hcs 2 (.int .i64 (now : Int)) rfl
                  cases hrn
                  have hcn : w.cell? ⟨L.cb, L.base + 0 + 2, none⟩ = some (.int .i64 (now : Int)) := by simp [World.cell?, hw, hvn]
                  have hMCc := fun q => first_call r hl hL had hMC hg q
                  have one : ∀ {w1 w' : World} {svc : Value}, CQ B ι H H1 w sv svc w1 → (w1.alloc (stObj svc (now : Int))).grownBy w' none →
                      ∃ ι', RV ι' (.pointer (some ⟨H1.n, 0, none⟩)) (.pointer (some ⟨w1.heap.size, 0, none⟩)) ∧ Rel Try.prog B ι' ((mgH H H1).push (.cells [sv, .map none, .int .i64 (now : Int)] T.expire_Store true)) w' ∧ Stp ι H w ι' ((mgH H H1).push (.cells [sv, .map none, .int .i64 (now : Int)] T.expire_Store true)) w' := fun {w1 w' svc} hq hgr => by
                    obtain ⟨ι1, r1, s1, hrv⟩ := hq.ex
                    have hs : (w1.alloc (stObj svc (now : Int))).heap.size = w1.heap.size + 1 := by simp
                    have hsz := hgr.size
                    have hold : ∀ c, c < w1.heap.size → w'.heap[c]? = w1.heap[c]? := fun c hc => (hgr.block c (by omega) (by simp)).trans (((RowKit.Below.refl w1.heap.size w1).alloc (Nat.le_refl _) (stObj svc (now : Int))).block c hc)
                    have hw' : w'.heap[w1.heap.size]? = some (stObj svc (now : Int)) := (hgr.block _ (by omega) (by simp)).trans (MapKept.heap_alloc w1 _).1
                    exact fin_one s1 r1 hold (by omega) hgr.os hgr.tape hgr.output (st_rb r1.base hw' hrv)
                  split at h2
                  · cases h2
                    cases hrm
                    have hcm : w.cell? ⟨L.cb, L.base + 0 + 1, none⟩ = some (.map none) := by simp [World.cell?, hw, hvm]
                    refine Calls.mono (copy_nomap _ _ (now : Int) w (fun _ svc w1 => CQ B ι H H1 w sv svc w1) hcm hcn hMCc) ?_
                    rintro e w' ⟨g2, svc, w1, hq, hbl, rfl, hgr⟩
                    obtain ⟨ι', a1, a2, a3⟩ := one hq hgr
                    exact ⟨_, ι', rfl, a1, a2, a3⟩
                  · rename_i b
                    split at h2
                    · rename_i es hes
                      split at h2
                      · rename_i ks hks
                        split at h2
                        · rename_i hlen
                          cases hrm with
                          | map hM =>
                            rename_i M
                            have hcm : w.cell? ⟨L.cb, L.base + 0 + 1, none⟩ = some (.map (some M.cb)) := by simp [World.cell?, hw, hvm]
                            have hm := r.blk _ _ hM
                            rw [hes] at hm
                            obtain ⟨n, D0, hown, hperm, hnum, hsize, hhas⟩ := own_of hm hks hlen
                            obtain ⟨hk1, hk2⟩ := entS_some hks
                            have hcall := copy_map _ _ M.cb n (now : Int) D0 w (fun _ svc w1 => CQ B ι H H1 w sv svc w1)
                              (fun o ss wr => ∃ w1 ι1, o = w1.heap.size ∧ Rel Try.prog B ι1 (mgH H H1) w1 ∧ Stp ι H w ι1 (mgH H H1) w1 ∧ w.heap.size ≤ w1.heap.size ∧ CInv B ι1 (mgH H H1) w1 sv (now : Int) D0 ss wr)
                              hcm hcn hown hMCc
                              (fun g2 svc w1 w2 hq hbl hgr hsz => by
                                obtain ⟨ι1, r1, s1, hrv⟩ := hq.ex
                                have hok := CC_ad _ _ _ _ _ hMC (ro_cl hl) had
                                have hcl := mg_cl hl hok.1 hok.2.2.n
                                have hsv : AD H1.n sv := hcl.cells _ _ _ _ hg sv (by simp)
                                exact ⟨w1, ι1, rfl, r1, s1, s1.wn, cinv0 r1 hsv hrv hgr hsz⟩)
                              (fun o ss wr w2 hI hgr => by
                                obtain ⟨w1, ι1, rfl, r1, s1, hle1, ci⟩ := hI
                                exact ⟨w1, ι1, rfl, r1, s1, hle1, cinv_step ci hgr⟩)
                              (fun o ss x cc w2 hI hxl hx hnx => by
                                obtain ⟨w1, ι1, rfl, r1, s1, hle1, ci⟩ := hI
                                obtain ⟨kk, hkk, rfl⟩ := hhas x hx
                                have hpos := (hk2 kk hkk).2.1
                                have hnk := hnum kk hkk
                                obtain ⟨N, hN⟩ : ∃ N : Nat, kk.2 = (N : Int) := ⟨kk.2.toNat, by omega⟩
                                obtain rfl : cc = (N : Int) := by rw [← hnx, hnk, hN]
                                refine Calls.mono (cinv_set hone ci kk.1 N (by omega) hnx) ?_
                                rintro e w3 ⟨rfl, ci', hsame⟩
                                have hMlt := (r.lt _ _ hM).2
                                exact ⟨rfl, ⟨w1, ι1, rfl, r1, s1, hle1, ci'⟩, hsame _ (.inl (by omega)), hsame _ (.inr rfl)⟩)
                            refine Calls.mono hcall ?_
                            rintro e w' ⟨o, ss, rfl, hp2, w1, ι1, rfl, r1, s1, hle1, ⟨⟨ιr, Hr, mr, E, rr, hclr, q1, q2, q3, q4, q5, q6, q7, q8, q9, q10⟩, c1, c2, c3, c4, c5⟩⟩
                            have hpk := hp2.trans hperm
                            have hRB := rr.blk _ _ q2
                            rw [q4] at hRB
                            obtain ⟨cs2, e2, fz2, hw2, hsz2, hle2, hcs2, hrw2⟩ := hRB
                            have hmem : ∀ p, p ∈ entsOf E ↔ p ∈ es := fun p => by
                              rw [hk1]
                              constructor
                              · intro hp
                                obtain ⟨pr, hpr, rfl⟩ := List.mem_map.1 hp
                                have hlk := lkp_of_mem q9 hpr
                                obtain ⟨h1, h3⟩ := (q10 pr.1 pr.2).1 hlk
                                obtain ⟨kk, hkk, hke⟩ := List.mem_map.1 (hpk.mem_iff.1 h1)
                                refine List.mem_map.2 ⟨kk, hkk, ?_⟩
                                rw [h3, ← hke, hnum kk hkk]
                                have : (⟨kk.1.toArray⟩ : ByteArray) = pr.1 := by rw [hke]
                                rw [this]
                              · intro hp
                                obtain ⟨kk, hkk, rfl⟩ := List.mem_map.1 hp
                                have hpos := (hk2 kk hkk).2.1
                                have hlk : lkp E ⟨kk.1.toArray⟩ = some kk.2.toNat := (q10 _ _).2 ⟨hpk.mem_iff.2 (List.mem_map_of_mem hkk), by
                                  show _ = Go.Proofs.Ythjjkinpbpealaa.numD D0 kk.1
                                  rw [hnum kk hkk]
                                  omega⟩
                                refine List.mem_map.2 ⟨_, lkp_mem hlk, ?_⟩
                                have : ((kk.2.toNat : Nat) : Int) = kk.2 := by omega
                                simp only [this]
                            have hok := CC_ad _ _ _ _ _ hMC (ro_cl hl) had
                            have hsvA : AD H1.n sv := (mg_cl hl hok.1 hok.2.2.n).cells _ _ _ _ hg sv (by simp)
                            have hRV : ∀ v, RV ιr sv v → RV ι1 sv v := fun v hv => by
                              have h1 := RV.low hv hsvA
                              have h2 : Eng.low H1.n ιr = Eng.low H1.n ι1 := by
                                funext b
                                unfold Eng.low
                                by_cases hb : b < H1.n
                                · rw [if_pos hb, if_pos hb, q3 b hb]
                                · rw [if_neg hb, if_neg hb]
                              rw [h2] at h1
                              exact h1.mono fun b L hb => (low_some.1 hb).2
                            obtain ⟨svc, hsc, hrs⟩ := hcs2 0 sv rfl
                            obtain ⟨vmc, hmc, hrmc⟩ := hcs2 1 (.map mr) rfl
                            obtain ⟨vnc, hnc, hrnc⟩ := hcs2 2 (.int .i64 (now : Int)) rfl
                            cases hrnc
                            split at h2
                            · rename_i hke
                              cases h2
                              have hk0 : ks = [] := List.isEmpty_iff.1 hke
                              have hs0 : ss = [] := List.length_eq_zero_iff.1 (by rw [hpk.length_eq, hk0]; rfl)
                              have hm0 := q6 hs0
                              subst hm0
                              obtain ⟨ι', a1, a2, a3⟩ := fin_one (sv := sv) (now := (now : Int)) s1 r1 c1 (by omega) c3 c4 c5 (by
                                refine ⟨cs2, e2, fz2, hw2, hsz2, hle2, fun i v hv => ?_, hrw2⟩
                                match i, hv with
                                | 0, hv => cases hv; exact ⟨svc, hsc, hRV _ hrs⟩
                                | 1, hv =>
                                  cases hv
                                  cases hrmc
                                  exact ⟨_, hmc, .nilm⟩
                                | 2, hv => cases hv; exact ⟨_, hnc, .int _ _⟩)
                              exact ⟨_, ι', rfl, a1, a2, a3⟩
                            · rename_i hke
                              cases h2
                              cases hmr : mr with
                              | none =>
                                exfalso
                                subst hmr
                                have hE : E = [] := q5
                                subst hE
                                have : ks = [] := by
                                  cases ks with
                                  | nil => rfl
                                  | cons kk ks =>
                                    have := (hmem _).2 (by rw [hk1]; exact List.mem_map_of_mem (List.mem_cons_self ..))
                                    cases this
                                exact hke (by rw [this]; rfl)
                              | some mb =>
                                subst hmr
                                obtain ⟨qa, qb, qc⟩ := q5
                                obtain ⟨Lm, hLm, hge⟩ := q7 mb rfl
                                have hmbR := rr.blk _ _ hLm
                                rw [qa] at hmbR
                                obtain ⟨hBm, ents, clock, hwm, hmr2⟩ := hmbR
                                obtain ⟨_, ents0, clock0, _, hmr0⟩ := hm
                                have nd1 : (entsOf E).Nodup := by
                                  unfold entsOf
                                  rw [List.Nodup, List.pairwise_map]
                                  have := q9
                                  rw [List.Nodup, List.pairwise_map] at this
                                  exact this.imp fun h e => h (by have := congrArg Prod.fst e; exact Value.string.inj this)
                                have nd2 : es.Nodup := by
                                  have := hmr0.keys
                                  rw [List.Nodup, List.pairwise_map] at this
                                  exact this.imp fun h e => h (by rw [e])
                                have hlen2 : (entsOf E).length = es.length := ((List.perm_ext_iff_of_nodup nd1 nd2).2 hmem).length_eq
                                have hMR : MapRel ι1 es ents clock := ⟨fun p hp => by
                                    obtain ⟨e, he, hke2, hrv⟩ := hmr2.fwd p ((hmem p).2 hp)
                                    refine ⟨e, he, hke2, ?_⟩
                                    rw [hk1] at hp
                                    obtain ⟨kk, _, rfl⟩ := List.mem_map.1 hp
                                    rw [rv_int hrv]
                                    exact .int _ _, fun e he => by
                                    obtain ⟨p, hp, h⟩ := hmr2.bwd e he
                                    exact ⟨p, (hmem p).1 hp, h⟩, by rw [hmr2.len, hlen2], hmr0.keys, hmr2.ckeys, hmr2.born, hmr2.clk⟩
                                have hLlt := (rr.lt _ _ hLm).2
                                obtain ⟨ι', a1, a2, a3⟩ := fin_two (sv := sv) (now := (now : Int)) s1 r1 c1 (by omega) c3 c4 c5 hge hLlt (es := es) ⟨hBm, ents, clock, hwm, hMR⟩ (by
                                  have hup := up_ext r1 Lm
                                  refine ⟨cs2, e2, fz2, hw2, hsz2, hle2, fun i v hv => ?_, hrw2⟩
                                  match i, hv with
                                  | 0, hv => cases hv; exact ⟨svc, hsc, (hRV _ hrs).mono hup⟩
                                  | 1, hv =>
                                    cases hv
                                    cases hrmc with
                                    | map hL2 =>
                                      rename_i L2
                                      rw [hLm] at hL2
                                      cases hL2
                                      exact ⟨_, hmc, .map (by simp [up])⟩
                                  | 2, hv => cases hv; exact ⟨_, hnc, .int _ _⟩)
                                exact ⟨_, ι', rfl, a1, a2, a3⟩
                        · cases h2
                      · cases h2
                    · cases h2
            · cases h2
          · cases h2
        · cases h2
      · cases h2
    · cases h2
  · simp [hg] at h2

end Go.Proofs.Ythjjkinpbpealaa

/-
  Chapter 45: calls of the second level: Copy of a store; all else as it was.
  Conditions: none. By an AI agent.
-/
set_option linter.unusedVariables false
set_option maxRecDepth 10000
set_option linter.unusedSimpArgs false
set_option linter.unusedVariables false
namespace Go.Proofs.Ythjjkinpbpealaa
open Go Eng

noncomputable def prims2 : Prims := fun f => if f = 26 then some copyP2 else if f = F.law_ExpirePlays then none else some fun args H => CC f args H
theorem prims2_ok : PrimsOK Try.prog prims2 := by
  intro f p h
  unfold prims2 at h
  split at h
  · rename_i hf
    cases h
    subst hf
    exact ⟨copy2_ad, copy2_ok⟩
  · split at h
    · cases h
    · cases h
      refine ⟨fun _ args H v H' h hl had => CC_ad _ _ _ _ _ h hl had, fun g args H v H' h hl had B ι w args' r ha => ?_⟩
      replace h : (if g = f then CC f args H else none) = some (v, H') := h
      by_cases hg : g = f
      · subst hg
        rw [if_pos rfl] at h
        exact CC_ok _ _ _ _ _ h hl had B ι w args' r ha
      · rw [if_neg hg] at h
        cases h
noncomputable def CC2 : CallF := D Try.prog prims2 hints
theorem up2 {f : FuncId} {args : List Value} {H : AHeap} {r : Value × AHeap} (h : CC f args H = some r) (hp : prims2 f = some (fun args H => CC f args H) := by kernel_rfl) : CC2 f args H = some r := D_prim hp h

noncomputable def l2_law_ExpirePlays_0 (v0 : Value) (v3 : Value) (v4 : Value) (v5 : Value) (H : AHeap) (k : K) : Res := loopL stdL Try.prog hints CC2 limLP F.law_ExpirePlays 0 [(0, v0), (3, v3), (4, v4), (5, v5)] H k
noncomputable def l2_law_ExpirePlays_1 (v0 : Value) (v3 : Value) (v4 : Value) (v5 : Value) (v6 : Value) (v8 : Value) (v9 : Value) (H : AHeap) (k : K) : Res := loopL stdL Try.prog hints CC2 limLP F.law_ExpirePlays 1 [(0, v0), (3, v3), (4, v4), (5, v5), (6, v6), (8, v8), (9, v9)] H k
theorem r2_law_ExpirePlays_0 (v0 : Value) (v3 : Value) (v4 : Value) (v5 : Value) (H : AHeap) (k : K) : l2_law_ExpirePlays_0 v0 v3 v4 v5 H k = s_law_ExpirePlays_b0 guardK condL shareL Try.prog CC2 l2_law_ExpirePlays_0 l2_law_ExpirePlays_1 v0 v3 v4 v5 H (seqK (fun T H => l2_law_ExpirePlays_0 (get T 0) (get T 3) (get T 4) (get T 5) H k) k) := ((loopL_next (by kernel_rfl) rfl H k).trans (s_law_ExpirePlays_b0_eq stdL CC2 limLP v0 v3 v4 v5 H _)).trans (by kernel_rfl)
theorem r2_law_ExpirePlays_1 (v0 : Value) (v3 : Value) (v4 : Value) (v5 : Value) (v6 : Value) (v8 : Value) (v9 : Value) (H : AHeap) (k : K) : l2_law_ExpirePlays_1 v0 v3 v4 v5 v6 v8 v9 H k = s_law_ExpirePlays_b1 guardK condL shareL Try.prog CC2 l2_law_ExpirePlays_0 l2_law_ExpirePlays_1 v0 v3 v4 v5 v6 v8 v9 H (seqK (fun T H => l2_law_ExpirePlays_1 (get T 0) (get T 3) (get T 4) (get T 5) (get T 6) (get T 8) (get T 9) H k) k) := ((loopL_next (by kernel_rfl) rfl H k).trans (s_law_ExpirePlays_b1_eq stdL CC2 limLP v0 v3 v4 v5 v6 v8 v9 H _)).trans (by kernel_rfl)
theorem d2_law_ExpirePlays (a0 : Value) (H : AHeap) {r : Value × AHeap} (h : s_law_ExpirePlays guardK condL shareL Try.prog CC2 l2_law_ExpirePlays_0 l2_law_ExpirePlays_1 a0 H (endK Try.prog [.tmp 2]) = some r) : CC2 F.law_ExpirePlays [a0] H = some (tidy H r) := D_body (by kernel_rfl) ((s_law_ExpirePlays_eq stdL CC2 limLP a0 H).trans (Eq.trans (show s_law_ExpirePlays stdL.b.g stdL.c stdL.s Try.prog CC2 (fun v0 v3 v4 v5 H k => loopL stdL Try.prog hints CC2 limLP F.law_ExpirePlays 0 [(0, v0), (3, v3), (4, v4), (5, v5)] H k) (fun v0 v3 v4 v5 v6 v8 v9 H k => loopL stdL Try.prog hints CC2 limLP F.law_ExpirePlays 1 [(0, v0), (3, v3), (4, v4), (5, v5), (6, v6), (8, v8), (9, v9)] H k) a0 H (endK Try.prog [.tmp 2]) = s_law_ExpirePlays guardK condL shareL Try.prog CC2 l2_law_ExpirePlays_0 l2_law_ExpirePlays_1 a0 H (endK Try.prog [.tmp 2]) by kernel_rfl) h))


end Go.Proofs.Ythjjkinpbpealaa

/-
  Chapter 45: what Copy of a store gives.
  Conditions: none. By an AI agent.
-/
set_option maxRecDepth 10000
set_option linter.unusedSimpArgs false
set_option linter.unusedVariables false
namespace Go.Proofs.Ythjjkinpbpealaa
open Go Eng
attribute [local congr] bareK_congr' bothK_congr' quietK_congr'

theorem slok_lt {e : TypeId} {H : AHeap} {v : Value} (h : SlOk e H v) : ∀ c, blockOf v = some c → c < H.n := by
  rcases h with rfl | ⟨b, o, n, code, rfl, _, _, h3⟩
  · intro c h; cases h
  · intro c h; cases h; exact h3
/-- What Copy of a store gives. -/
def CopyOK2 : Prop := ∀ (H : AHeap) (c : Nat) (m : Option Nat) (E : Ec) (S : List En) (now : Nat), Ok H → StR H c m E S now →
  ∃ c' m' E' H', CC2 F.expire_Store_Copy [pt c] H = some (pt c', H') ∧ StR H' c' m' E' S now ∧ Still H H' ∧ ∀ b, OB H' c' b → H.n ≤ b

theorem own_f {α : Type} {E : Enc α} {H H' : AHeap} {e : TypeId} {v : Value} {l : List α} (o : Own E H e v l) (h : ∀ b, blockOf v = some b → H'.f b = H.f b ∧ b < H'.n) : Own E H' e v l := by
  rcases o with h0 | ⟨hl, x, hv, hs, hb⟩ | ⟨bb, o, cc, xs, hv, hlc, hb, hff, ho, hx⟩
  · exact .inl h0
  · exact .inr (.inl ⟨hl, x, hv, hs, (h _ (by rw [hv]; rfl)).2⟩)
  · obtain ⟨h1, h2⟩ := h bb (by rw [hv]; rfl)
    exact .inr (.inr ⟨bb, o, cc, xs, hv, hlc, h2, by rw [h1]; exact hff, ho, hx⟩)
theorem rd_ro {α : Type} {E : Enc α} {H : AHeap} {e : TypeId} {v : Value} {l : List α} (o : Own E H e v l) : Rd E (roH H) v l := by
  rcases o.rd with h | h | ⟨b, o2, c, hv, hl, hb, hc⟩
  · exact .inl h
  · exact .inr (.inl h)
  · refine .inr (.inr ⟨b, o2, c, hv, hl, hb, ?_⟩)
    show cutB (match H.f b with | .cells xs e _ => Blk.cells xs e false | _ => .dead) o2 _ = _
    cases hf : H.f b with
    | cells xs e rw => rw [hf] at hc; exact hc
    | map es => rw [hf] at hc; cases hc
    | siter s p => rw [hf] at hc; cases hc
    | dead => rw [hf] at hc; cases hc

theorem q_copyRO {H : AHeap} {c : Nat} {v : Value} {rest : List Value} {t : TypeId} {l : List Pr} (hf : H.f c = .cells (v :: rest) t true) (o : Own EPr H T.api_Pair v l) (hl : l.length ≤ 1000000) :
    ∃ g v5 H1, CC F.model_Model_Copy [pt c] (roH H) = some (pt g, H1) ∧ H.n ≤ g ∧ g < H1.n ∧ H1.f g = .cells [v5] T.model_Model true ∧ Own EPr H1 T.api_Pair v5 l ∧ (∀ b, blockOf v5 = some b → H.n ≤ b ∧ b < H1.n) := by
  have hf' : (roH H).f c = .cells (v :: rest) t false := by
    show (match H.f c with | .cells xs e _ => Blk.cells xs e false | _ => .dead) = _
    rw [hf]
  obtain ⟨v5, H2, hcl, ho5, s2, hn5⟩ := q_clone_Pair l v (roH H) (rd_ro o) (by omega)
  have n2 : H.n ≤ H2.n := s2.n
  refine ⟨H2.n, v5, H2.push (.cells [v5] T.model_Model true), (d_model_Model_Copy _ (roH H) (r := (.pointer (some ⟨H2.n, 0, none⟩), _)) ?_).trans (congrArg some (tidy_mem rfl)), n2, Nat.lt_succ_self _, push_f_eq rfl, ho5.still ((Fr.refl _).push _), fun b hb => ⟨hn5 b hb, Nat.lt_succ_of_lt (ho5.blk hb)⟩⟩
  obtain ⟨a, n, cc, hv5⟩ : ∃ a n c, v5 = .slice a n c := by
    rcases ho5 with ⟨_, h⟩ | ⟨_, a, h, _⟩ | ⟨b, o, c, xs, h, _⟩ <;> exact ⟨_, _, _, h⟩
  subst hv5
  simp (disch := first | with_reducible rfl | assumption | omega | rfl | (simp only [go_sem]; first | done | omega)) only [go_sem, ↓reduceIte, reduceCtorEq, Nat.reduceEqDiff, Nat.reduceAdd, Nat.reduceSub, Nat.reduceMul, Nat.reduceDiv, Nat.reduceMod, Nat.reduceLeDiff, Nat.reduceLT, Nat.reduceBEq, Int.reduceEq, Int.reduceBEq, Int.reduceBNe, Int.reduceLT, Int.reduceLE, Int.reduceAdd, Int.reduceSub, Int.reduceNeg, Int.reduceToNat, Int.reducePow, Nat.reducePow, Int.reduceMul, Int.reduceDiv, ↓s_model_Model_Copy, mp_some, hf', ↓enterK_eq hcl, enterK_eq hcl]

theorem mg_still {H H1 : AHeap} (hn : H.n ≤ H1.n) : Still H (mgH H H1) := by
  refine ⟨hn, Nat.le_refl _, fun b hb => .inl ⟨?_, ?_⟩, fun h b => ?_⟩
  · show (if b < H.n then H.ver b else 0) = _
    rw [if_pos hb]
  · show (if b < H.n then H.f b else H1.f b) = _
    rw [if_pos hb]
  · show (if b < H.n then H.ver b else 0) < H.clk
    split
    · exact h b
    · exact Nat.lt_of_le_of_lt (Nat.zero_le _) (h b)

theorem copyOK2 : CopyOK2 := by
  intro H c m E S now ok r
  obtain ⟨v, f0, hcn, o0, g0⟩ := id r.md
  have f0 : H.f c = .cells [v, .map m, .int .i64 (.ofNat now)] T.expire_Store true := f0
  have hlen := r.len
  obtain ⟨g, v5, H1, e1, hg1, hg2, hg3, o5, nb5⟩ := q_copyRO f0 o0 (by simp [pl]; omega)
  have e1 : CC F.model_Model_Copy [.pointer (some ⟨c, 0, none⟩)] (roH H) = some (.pointer (some ⟨g, 0, none⟩), H1) := e1
  have hn : H.n ≤ H1.n := by omega
  have hone : Eng.one v5 = true := o5.cell
  obtain ⟨Hm, hHm⟩ : ∃ Hm, mgH H H1 = Hm := ⟨_, rfl⟩
  have sm : Still H Hm := by rw [← hHm]; exact mg_still hn
  have nm : Hm.n = H1.n := by rw [← hHm]; rfl
  have fm : ∀ b, H.n ≤ b → Hm.f b = H1.f b := fun b hb => by
    rw [← hHm]
    show (if b < H.n then H.f b else H1.f b) = _
    rw [if_neg (by omega)]
  have hgm : Hm.f g = .cells [v5] T.model_Model true := by rw [fm g hg1]; exact hg3
  have om : Own EPr Hm T.api_Pair v5 (pl S) := own_f o5 fun b hb => ⟨fm b (nb5 b hb).1, by have := (nb5 b hb).2; omega⟩
  have hp : prims2 F.expire_Store_Copy = some copyP2 := by kernel_rfl
  have plain : m = none ∨ E = [] → (copyP2 [pt c] H = some (pt H1.n, Hm.push (.cells [v5, .map none, .int .i64 (now : Int)] T.expire_Store true))) → E = [] →
      ∃ c' m' E' H', CC2 F.expire_Store_Copy [pt c] H = some (pt c', H') ∧ StR H' c' m' E' S now ∧ Still H H' ∧ ∀ b, OB H' c' b → H.n ≤ b := fun _ he hE => by
    subst hE
    obtain ⟨H3, hH3⟩ : ∃ H3, Hm.push (.cells [v5, .map none, .int .i64 (now : Int)] T.expire_Store true) = H3 := ⟨_, rfl⟩
    rw [hH3] at he
    have s3 : Still Hm H3 := by rw [← hH3]; exact (Fr.refl Hm).push _
    have f3 : H3.f H1.n = .cells [v5, .map none, .int .i64 (now : Int)] T.expire_Store true := by rw [← hH3, ← nm]; exact push_f_eq rfl
    have n3 : H3.n = H1.n + 1 := by rw [← hH3, ← nm]; rfl
    refine ⟨H1.n, none, [], H3, D_prim hp he, ⟨⟨v5, f3, by omega, om.still s3, fun h => by have := (nb5 _ h).2; omega⟩, rfl, fun mb e => (by cases e), r.nd, r.lk, r.srt, r.len, r.ends, r.nw, r.keys⟩, sm.trans s3, fun b hb => ?_⟩
    rcases hb with hb | ⟨u, mm, nn, hu, hb⟩
    · omega
    · rw [f3] at hu
      cases hu
      rcases hb with hb | hb
      · exact (nb5 b hb).1
      · cases hb
  cases hm : m with
  | none =>
    subst hm
    have hE : E = [] := r.mi
    refine plain (.inl rfl) ?_ hE
    unfold copyP2
    simp only [f0, e1, hHm, hgm, hone, if_true]
  | some b =>
    subst hm
    obtain ⟨b1, b2, b3⟩ := r.mi
    have hes := entS_ents r.ents_ok
    have hel : (entsOf E).length ≤ 1000000 := by unfold entsOf; rw [List.length_map]; have := r.elen; omega
    by_cases hE : E = []
    · refine plain (.inr hE) ?_ hE
      subst hE
      unfold copyP2
      simp only [f0, e1, hHm, hgm, hone, if_true, b1, hes, hel, List.map_nil, List.isEmpty_nil]
    · have hne : (E.map conv).isEmpty = false := by cases E with | nil => exact absurd rfl hE | cons a E => rfl
      obtain ⟨H2, hH2⟩ : ∃ H2, Hm.push (.map (entsOf E)) = H2 := ⟨_, rfl⟩
      obtain ⟨H3, hH3⟩ : ∃ H3, H2.push (.cells [v5, .map (some H1.n), .int .i64 (now : Int)] T.expire_Store true) = H3 := ⟨_, rfl⟩
      have he : copyP2 [pt c] H = some (pt (H1.n + 1), H3) := by
        unfold copyP2
        simp only [f0, e1, hHm, hgm, hone, if_true, b1, hes, hel, hne]
        rw [← hH3, ← hH2]
        rfl
      have s2 : Still Hm H2 := by rw [← hH2]; exact (Fr.refl Hm).push _
      have s3 : Still H2 H3 := by rw [← hH3]; exact (Fr.refl H2).push _
      have n2 : H2.n = H1.n + 1 := by rw [← hH2, ← nm]; rfl
      have n3 : H3.n = H1.n + 2 := by rw [← hH3]; show H2.n + 1 = _; omega
      have f2 : H2.f H1.n = .map (entsOf E) := by rw [← hH2, ← nm]; exact push_f_eq rfl
      have f3m : H3.f H1.n = .map (entsOf E) := by rw [s3.f (by omega) fun h => h]; exact f2
      have f3 : H3.f (H1.n + 1) = .cells [v5, .map (some H1.n), .int .i64 (now : Int)] T.expire_Store true := by rw [← hH3, ← n2]; exact push_f_eq rfl
      refine ⟨H1.n + 1, some H1.n, E, H3, D_prim hp he, ⟨⟨v5, f3, by omega, (om.still s2).still s3, fun h => by have := (nb5 _ h).2; omega⟩, ⟨f3m, by omega, by omega⟩, fun mb e h => ?_, r.nd, r.lk, r.srt, r.len, r.ends, r.nw, r.keys⟩, (sm.trans s2).trans s3, fun b hb => ?_⟩
      · cases e
        rcases h with h | ⟨u, hu, hb⟩
        · omega
        · have hu : H3.f (H1.n + 1) = .cells [u, .map (some H1.n), .int .i64 (now : Int)] T.expire_Store true := hu
          rw [f3] at hu
          cases hu
          have := (nb5 _ hb).2
          omega
      · rcases hb with hb | ⟨u, mm, nn, hu, hb⟩
        · omega
        · rw [f3] at hu
          cases hu
          rcases hb with hb | hb
          · exact (nb5 b hb).1
          · cases hb
            exact hn

end Go.Proofs.Ythjjkinpbpealaa

/-
  Chapter 45: the law ExpirePlays runs to true.
  Conditions: none. By an AI agent.
-/
set_option maxRecDepth 10000
set_option linter.unusedSimpArgs false
set_option linter.unusedVariables false
namespace Go.Proofs.Ythjjkinpbpealaa
open Go Eng
attribute [local congr] bareK_congr' bothK_congr' quietK_congr'

@[go_sem, go_sem ↓] theorem e_known2 {H : AHeap} {k : Value → AHeap → Res} : enterK CC2 F.law_known [] H k = k (.bool true) H := enterK_eq (up2 (k_known H))

/-- The keys that go are taken out of the model. -/
theorem l_p1x {mb : Nat} {now : Nat} {v0 v3 v5 v6 v8 : Value} {G : List ByteArray} (hl : G.length ≤ 20000) (h8 : blockOf v8 ≠ some mb) : ∀ (q : List ByteArray) (i : Nat) (S : List En) (H : AHeap), G.drop i = q → i ≤ G.length → Ok H → LM H mb S now → S.length ≤ 20000 → Rd EStr H v8 G →
    ∃ H', (∀ K, l2_law_ExpirePlays_1 v0 v3 (pt mb) v5 v6 v8 (.int .i64 (i : Int)) H (blkK [0, 3, 4, 5, 6, 8] 3 K) = K .normal [(0, v0), (3, v3), (4, pt mb), (5, v5), (6, v6), (8, v8)] H') ∧ LM H' mb (sweepS S q) now ∧ UpM H mb H'
  | [], i, S, H, hd, hi, ok, r, hS, r8 => by
    have h : G.length ≤ i := List.drop_eq_nil_iff.1 hd
    have hlt : ¬ (i : Int) < (G.length : Int) := by omega
    have hlen := r8.lenS
    refine ⟨H, fun K => ?_, r, UpM.refl H mb⟩
    rw [r2_law_ExpirePlays_1]
    simp (disch := first | with_reducible rfl | assumption | omega | rfl | (simp only [go_sem]; first | done | omega)) only [go_sem, ↓reduceIte, reduceCtorEq, Nat.reduceEqDiff, Nat.reduceAdd, Nat.reduceSub, Nat.reduceMul, Nat.reduceDiv, Nat.reduceMod, Nat.reduceLeDiff, Nat.reduceLT, Nat.reduceBEq, Int.reduceEq, Int.reduceBEq, Int.reduceBNe, Int.reduceLT, Int.reduceLE, Int.reduceAdd, Int.reduceSub, Int.reduceNeg, Int.reduceToNat, Int.reducePow, Nat.reducePow, Int.reduceMul, Int.reduceDiv, ↓s_law_ExpirePlays_b1, hlen, hlt]
  | k :: q, i, S, H, hd, hi, ok, r, hS, r8 => by
    have h : i < G.length := by
      rcases Nat.lt_or_ge i G.length with h | h
      · exact h
      · rw [List.drop_eq_nil_of_le h] at hd; cases hd
    have ha : G[i] = k := by rw [List.drop_eq_getElem_cons h] at hd; exact (List.cons.inj hd).1
    have hd' : G.drop (i + 1) = q := by rw [List.drop_eq_getElem_cons h] at hd; exact (List.cons.inj hd).2
    have hlt : (i : Int) < (G.length : Int) := by omega
    have hlen := r8.lenS
    obtain ⟨bb, o, ix, hbn, hcc, hbl⟩ := r8.ix (q := .i64) h
    have ix : ixS 1 v8 (.int .i64 i) = some (.pointer (some ⟨bb, o, none⟩)) := ix
    have c0 : cellB (H.f bb) o = some (.string k) := by
      have := cutB_cell hcc (i := 0) (by decide)
      rw [ha] at this
      exact this
    obtain ⟨hm, u, f0, o0, g0⟩ := id r
    have e1 := q_mfind r (by omega) k
    obtain ⟨w, H1, e2, o1, s1, hb1⟩ := q_mdel r (by omega) k
    have f1 : H1.f mb = .cells [u, .int .i64 (now : Int)] T.law_Model true := by rw [s1.f hm fun h => h]; exact f0
    have n1 := s1.n
    have hone : Eng.one w = true := o1.cell
    have hwm : blockOf w ≠ some mb := fun hh => by
      rcases hb1 mb hh with h | h
      · rcases findE_spec S k 0 with ⟨a, b, cc⟩ | ⟨j, x, a, b, cc, dd, e⟩
        · obtain ⟨v', e2', f0', _, _⟩ := q_mwithout_no r
          rw [a] at e2
          rw [e2'] at e2
          cases e2
          rw [f0] at f0'
          cases f0'
          exact g0 hh
        · obtain ⟨w', H2', e2', _, _, nb'⟩ := q_mwithout r (by omega) b
          rw [a, Nat.zero_add, e2'] at e2
          cases e2
          have := nb' mb hh
          omega
      · omega
    obtain ⟨H2, hH2⟩ : ∃ H2, H1.set mb (.cells [w, .int .i64 (now : Int)] T.law_Model true) = H2 := ⟨_, rfl⟩
    have fr2 : Fr (fun b => b = mb) H1 H2 := by rw [← hH2]; exact (Fr.refl H1).set _ _ fun _ => rfl
    have f2 : H2.f mb = .cells [w, .int .i64 (now : Int)] T.law_Model true := by rw [← hH2]; exact set_f_eq
    have n2 : H2.n = H1.n := by rw [← hH2]; rfl
    have o2 := o1.keep fr2 fun b hb h => hwm (by rw [← h]; exact hb)
    have r2 : LM H2 mb (delR S k) now := ⟨by omega, w, f2, o2, hwm⟩
    have u2 : UpM H mb H2 := ⟨s1.still.trans fr2, fun b hb => by
      rcases hb with hb | ⟨u', n', hu, hb⟩
      · exact .inl (.inl hb)
      · rw [f2] at hu
        cases hu
        exact hb1 b hb⟩
    have r82 : Rd EStr H2 v8 G := r8.keep u2.fr fun b hb h => h8 (by rw [← h]; exact hb)
    have hdl := del_len_le S k
    obtain ⟨H', k1, k2, k3⟩ := l_p1x (v0 := v0) (v3 := v3) (v5 := v5) (v6 := v6) hl h8 q (i + 1) (delR S k) H2 hd' (by omega) (u2.fr.ok ok) r2 (by omega) r82
    have n3 := u2.fr.n
    refine ⟨H', fun K => ?_, k2, ⟨u2.fr.trans k3.fr, fun b hb => ?_⟩⟩
    · have ih := k1 K
      rw [Int.natCast_add] at ih
      rw [r2_law_ExpirePlays_1]
      simp (disch := first | with_reducible rfl | assumption | omega | rfl | (simp only [go_sem]; first | done | omega)) only [go_sem, ↓reduceIte, reduceCtorEq, Nat.reduceEqDiff, Nat.reduceAdd, Nat.reduceSub, Nat.reduceMul, Nat.reduceDiv, Nat.reduceMod, Nat.reduceLeDiff, Nat.reduceLT, Nat.reduceBEq, Int.reduceEq, Int.reduceBEq, Int.reduceBNe, Int.reduceLT, Int.reduceLE, Int.reduceAdd, Int.reduceSub, Int.reduceNeg, Int.reduceToNat, Int.reducePow, Nat.reducePow, Int.reduceMul, Int.reduceDiv, ↓s_law_ExpirePlays_b1, hlen, hlt, ix, c0, enterK_eq (up2 e1), enterK_eq (up2 e2), f1, hone, hH2]
      exact ih
    · rcases k3.lb b hb with h | h
      · exact u2.lb b h
      · exact .inr (by omega)

section
variable {mb : Nat}
theorem h_nextx {v0 : Value} {l : List Act} {i : Nat}
    (IH : ∀ (c : Nat) (H : AHeap) (S : List En) (now : Nat), PS c mb H S now S now → S.length ≤ i + 1 → Rd EAct H v0 l → (∀ b, blockOf v0 = some b → Sp c mb H b) →
      ∃ H', ∀ K, l2_law_ExpirePlays_0 v0 (pt c) (pt mb) (.int .i64 ((i + 1 : Nat) : Int)) H (blkK [] 0 K) = K .normal [] H')
    {c : Nat} {H : AHeap} {S : List En} {now : Nat} (h : PS c mb H S now S now) (hS : S.length ≤ i + 1) (r0 : Rd EAct H v0 l) (s0 : ∀ b, blockOf v0 = some b → Sp c mb H b) :
    CC F.law_alike [pt c, pt mb] H = some (.bool true, H) ∧ ∃ H', ∀ K, l2_law_ExpirePlays_0 v0 (pt c) (pt mb) (.int .i64 ((i : Int) + 1)) H (blkK [] 0 K) = K .normal [] H' := by
  obtain ⟨m, E, r⟩ := h.st
  refine ⟨q_alike h.ok r h.lm, ?_⟩
  obtain ⟨H', ih⟩ := IH c H S now h hS r0 s0
  refine ⟨H', fun K => ?_⟩
  have ih := ih K
  rw [Int.natCast_add] at ih
  exact ih

theorem l_p0x (hcopy : CopyOK2) {v0 : Value} {l : List Act} (hl : l.length ≤ 1000) : ∀ (q : List Act) (i : Nat) (c : Nat) (H : AHeap) (S : List En) (now : Nat), l.drop i = q → i ≤ l.length → PS c mb H S now S now → S.length ≤ i → Rd EAct H v0 l → (∀ b, blockOf v0 = some b → Sp c mb H b) →
    ∃ H', ∀ K, l2_law_ExpirePlays_0 v0 (pt c) (pt mb) (.int .i64 (i : Int)) H (blkK [] 0 K) = K .normal [] H'
  | [], i, c, H, S, now, hd, hi, h, hS, r0, s0 => by
    have h : l.length ≤ i := List.drop_eq_nil_iff.1 hd
    have hlt : ¬ (i : Int) < (l.length : Int) := by omega
    have hlen := r0.lenS
    refine ⟨H, fun K => ?_⟩
    rw [r2_law_ExpirePlays_0]
    simp (disch := first | with_reducible rfl | assumption | omega | rfl | (simp only [go_sem]; first | done | omega)) only [go_sem, ↓reduceIte, reduceCtorEq, Nat.reduceEqDiff, Nat.reduceAdd, Nat.reduceSub, Nat.reduceMul, Nat.reduceDiv, Nat.reduceMod, Nat.reduceLeDiff, Nat.reduceLT, Nat.reduceBEq, Int.reduceEq, Int.reduceBEq, Int.reduceBNe, Int.reduceLT, Int.reduceLE, Int.reduceAdd, Int.reduceSub, Int.reduceNeg, Int.reduceToNat, Int.reducePow, Nat.reducePow, Int.reduceMul, Int.reduceDiv, ↓s_law_ExpirePlays_b0, hlen, hlt]
  | ⟨w, ky, vl, nn⟩ :: q, i, c, H, S, now, hd, hi, h, hS, r0, s0 => by
    obtain ⟨hi', ha, hd'⟩ := drop_act hd
    have hlt : (i : Int) < (l.length : Int) := by omega
    have hlen := r0.lenS
    obtain ⟨bb, o, ix, hbn, hcc, hbl⟩ := r0.ix (q := .i64) hi'
    have ix : ixS 4 v0 (.int .i64 i) = some (.pointer (some ⟨bb, o, none⟩)) := ix
    rw [ha] at hcc
    have hcc : cutB (H.f bb) o 4 = some [.int .i64 w, .string ky, .string vl, .int .i64 nn] := hcc
    have IH := fun c H S now (h : PS c mb H S now S now) (hS : S.length ≤ i + 1) => l_p0x hcopy (v0 := v0) hl q (i + 1) c H S now hd' (by omega) h hS
    -- the act, in a block of its own
    obtain ⟨Hz, hHz⟩ : ∃ Hz, H.push (actB 0 (mk []) (mk []) 0) = Hz := ⟨_, rfl⟩
    obtain ⟨H1, hH1⟩ : ∃ H1, Hz.set H.n (actB w ky vl nn) = H1 := ⟨_, rfl⟩
    have nw : newv T.law_Act (.agg #[.int .i64 0, .string (mk []), .string (mk []), .int .i64 0]) H = some (.pointer (some ⟨H.n, 0, none⟩), Hz) := by rw [← hHz]; rfl
    have fz : Hz.f H.n = actB 0 (mk []) (mk []) 0 := by rw [← hHz]; exact push_f_eq rfl
    have sz : Still H Hz := by rw [← hHz]; exact (Fr.refl H).push _
    have s1 : Still H H1 := by rw [← hH1]; exact sz.set _ _ fun h => absurd h (Nat.lt_irrefl _)
    have f1 : H1.f H.n = actB w ky vl nn := by rw [← hH1]; exact set_f_eq
    have n1 : H1.n = H.n + 1 := by rw [← hH1, ← hHz]; rfl
    unfold actB at fz hH1 f1
    obtain ⟨h1, u1⟩ := h.still s1
    have s6 : Sp c mb H1 H.n := h.new s1 (Nat.le_refl _) (by omega)
    have r01 := Sp.rd s0 u1 r0
    have s01 : ∀ b, blockOf v0 = some b → Sp c mb H1 b := fun b hb => (s0 b hb).up u1
    obtain ⟨m, E, r⟩ := h1.st
    have hSl := r.len
    by_cases hw : 0 ≤ w ∧ w ≤ 3
    · obtain ⟨hw0, hw3⟩ := hw
      obtain ⟨m2, E2, H2, e1, r2, x2⟩ := q_callsS h1.ok r ⟨w, ky, vl, nn⟩
      obtain ⟨h2, u2⟩ := h1.upX x2 r2
      obtain ⟨H3, e2, lm3, x3⟩ := q_mdo h2.ok h2.lm r.srt (by omega) ⟨w, ky, vl, nn⟩ hw0 hw3
      obtain ⟨h3, u3⟩ := h2.upM x3 lm3
      have f2 := (s6.f u2).trans f1
      have e1 : CC F.law_calls [pt c, .agg #[.int .i64 w, .string ky, .string vl, .int .i64 nn]] H1 = some (.int .i64 (actX S now ⟨w, ky, vl, nn⟩).1, H2) := e1
      have e2 : CC F.law_Model_do [pt mb, .agg #[.int .i64 w, .string ky, .string vl, .int .i64 nn]] H2 = some (.int .i64 (actX S now ⟨w, ky, vl, nn⟩).1, H3) := e2
      have ck0 : okV (some true) none H1 H2 H2 H2 = true := okV_none (.inl u2.fr.n)
      have ck1 : okV (some true) (some H.n) H1 H2 H2 H2 = true := okV_some (.inr (u2.fr.ver s6.1 s6.not)) (.inl u2.fr.n)
      have hal := act_len S now ⟨w, ky, vl, nn⟩
      have u13 := UpP.trans h1 u2 u3
      obtain ⟨e3, H', ih⟩ := h_nextx IH h3 (by omega) (Sp.rd s01 u13 r01) (fun b hb => (s01 b hb).up u13)
      refine ⟨H', fun K => ?_⟩
      have ih := ih K
      generalize (actX S now ⟨w, ky, vl, nn⟩).1 = e at e1 e2
      rw [r2_law_ExpirePlays_0]
      simp (disch := first | with_reducible rfl | assumption | omega | rfl | (simp only [go_sem]; first | done | omega)) only [go_sem, ↓reduceIte, reduceCtorEq, Nat.reduceEqDiff, Nat.reduceAdd, Nat.reduceSub, Nat.reduceMul, Nat.reduceDiv, Nat.reduceMod, Nat.reduceLeDiff, Nat.reduceLT, Nat.reduceBEq, Int.reduceEq, Int.reduceBEq, Int.reduceBNe, Int.reduceLT, Int.reduceLE, Int.reduceAdd, Int.reduceSub, Int.reduceNeg, Int.reduceToNat, Int.reducePow, Nat.reducePow, Int.reduceMul, Int.reduceDiv, ↓s_law_ExpirePlays_b0, hlen, hlt, ix, hcc, nw, fz, hH1, f1, hw0, hw3, enterK_eq (up2 e1), f2, enterK_eq (up2 e2), ck0, ck1, Bool.not_true, enterK_eq (up2 e3)]
      exact ih
    · by_cases w4 : w = 4
      · subst w4
        by_cases hn : nn < 1
        · obtain ⟨m2, E2, H2, e1, r2, x2⟩ := q_sweeps (w := .slice none 0 0) (G := []) h1.ok r nn (by rw [if_pos hn]) (.inl ⟨rfl, rfl⟩) (fun b h => by cases h)
          rw [if_pos hn] at e1
          obtain ⟨h2, u2⟩ := h1.upX x2 r2
          obtain ⟨e3, H', ih⟩ := h_nextx IH h2 (by show S.length ≤ i + 1; omega) (Sp.rd s01 u2 r01) (fun b hb => (s01 b hb).up u2)
          refine ⟨H', fun K => ?_⟩
          have ih := ih K
          rw [r2_law_ExpirePlays_0]
          simp (disch := first | with_reducible rfl | assumption | omega | rfl | (simp only [go_sem]; first | done | omega)) only [go_sem, ↓reduceIte, reduceCtorEq, Nat.reduceEqDiff, Nat.reduceAdd, Nat.reduceSub, Nat.reduceMul, Nat.reduceDiv, Nat.reduceMod, Nat.reduceLeDiff, Nat.reduceLT, Nat.reduceBEq, Int.reduceEq, Int.reduceBEq, Int.reduceBNe, Int.reduceLT, Int.reduceLE, Int.reduceAdd, Int.reduceSub, Int.reduceNeg, Int.reduceToNat, Int.reducePow, Nat.reducePow, Int.reduceMul, Int.reduceDiv, ↓s_law_ExpirePlays_b0, hlen, hlt, ix, hcc, nw, fz, hH1, f1, hn, enterK_eq (up2 e1), Bool.not_true, enterK_eq (up2 e3)]
          exact ih
        · obtain ⟨N, rfl⟩ : ∃ N : Nat, nn = (N : Int) := ⟨nn.toNat, by omega⟩
          obtain ⟨v, H2, e1, o2, s2, nb2⟩ := q_mwaiting h1.lm (by omega)
          obtain ⟨h2, u2⟩ := h1.still s2
          have f2 := (s6.f u2).trans f1
          have hl2 := o2.rd.lenS
          obtain ⟨I, hI⟩ : ∃ I, min N (wS S now).length = I := ⟨_, rfl⟩
          have hIl : I ≤ (wS S now).length := by omega
          have hmin : min (N : Int) ((wS S now).length : Int) = (I : Int) := by omega
          obtain ⟨v8, hs8, r8⟩ := o2.hi (sz := 1) rfl hIl (q := .i64)
          have hs8 : slS T.string 1 v none (some (.int .i64 (I : Int))) none H2 = some v8 := hs8
          have hbl8 := hi_blk o2 hIl hs8
          have htake : (wS S now).take I = (wS S now).take N := by
            rcases Nat.le_total N (wS S now).length with h | h
            · rw [show I = N by omega]
            · rw [show I = (wS S now).length by omega, List.take_length, List.take_of_length_le h]
          rw [htake] at r8
          have hwl := wS_le S now
          have htl : ((wS S now).take N).length ≤ 20000 := by rw [List.length_take]; omega
          have s8 : ∀ b, blockOf v8 = some b → Sp c mb H2 b := fun b hb => h1.new s2 (nb2 b (hbl8 b hb)) (o2.blk (hbl8 b hb))
          have h8m : blockOf v8 ≠ some mb := fun e => (s8 mb e).2.2 (.inl rfl)
          obtain ⟨H3, k1, lm3, x3⟩ := l_p1x (v0 := v0) (v3 := pt c) (v5 := .int .i64 (i : Int)) (v6 := pt H.n) htl h8m ((wS S now).take N) 0 S H2 rfl (Nat.zero_le _) h2.ok h2.lm (by omega) r8
          have k1 : ∀ K, l2_law_ExpirePlays_1 v0 (pt c) (pt mb) (.int .i64 (i : Int)) (pt H.n) v8 (.int .i64 0) H2 (blkK [0, 3, 4, 5, 6, 8] 3 K) = K .normal [(0, v0), (3, pt c), (4, pt mb), (5, .int .i64 (i : Int)), (6, pt H.n), (8, v8)] H3 := k1
          obtain ⟨h3, u3⟩ := h2.upM x3 lm3
          have u13 := UpP.trans h1 u2 u3
          have f3 := (s6.f u13).trans f1
          have r83 := Sp.rd s8 u3 r8
          obtain ⟨m3, E3, r3⟩ := h3.st
          obtain ⟨m4, E4, H4, e4, r4, x4⟩ := q_sweeps h3.ok r3 (N : Int) (G := (wS S now).take N) (by rw [if_neg hn, Int.toNat_natCast]) r83 (fun b hb => ((s8 b hb).up u3).2.1)
          rw [if_neg hn] at e4
          obtain ⟨h4, u4⟩ := h3.upX x4 r4
          have u14 := UpP.trans h1 u13 u4
          have hsl : (sweepS S ((wS S now).take N)).length ≤ S.length := by
            rw [sweep_filter _ r.srt]
            exact List.length_filter_le _ _
          obtain ⟨e5, H', ih⟩ := h_nextx IH h4 (by omega) (Sp.rd s01 u14 r01) (fun b hb => (s01 b hb).up u14)
          refine ⟨H', fun K => ?_⟩
          have ih := ih K
          rw [r2_law_ExpirePlays_0]
          simp (disch := first | with_reducible rfl | assumption | omega | rfl | (simp only [go_sem]; first | done | omega)) only [go_sem, ↓reduceIte, reduceCtorEq, Nat.reduceEqDiff, Nat.reduceAdd, Nat.reduceSub, Nat.reduceMul, Nat.reduceDiv, Nat.reduceMod, Nat.reduceLeDiff, Nat.reduceLT, Nat.reduceBEq, Int.reduceEq, Int.reduceBEq, Int.reduceBNe, Int.reduceLT, Int.reduceLE, Int.reduceAdd, Int.reduceSub, Int.reduceNeg, Int.reduceToNat, Int.reducePow, Nat.reducePow, Int.reduceMul, Int.reduceDiv, ↓s_law_ExpirePlays_b0, hlen, hlt, ix, hcc, nw, fz, hH1, f1, hn, enterK_eq (up2 e1), f2, hl2, hmin, hs8, k1, f3, enterK_eq (up2 e4), Bool.not_true, enterK_eq (up2 e5)]
          exact ih
      · by_cases w5 : w = 5
        · subst w5
          have e1 := q_bad ky (mk []) H1
          rw [chk_e] at e1
          have e2 := q_mfind h1.lm (by omega) ky
          have e3 := aliveB_find h1.lm r.srt ky
          obtain ⟨e5, H', ih⟩ := h_nextx IH h1 (by omega) r01 s01
          refine ⟨H', fun K => ?_⟩
          have ih := ih K
          rw [r2_law_ExpirePlays_0]
          by_cases hc : chk ky [] = 0
          · rw [hc] at e1
            cases hal : aliveB S now ky with
            | true =>
              rw [hal] at e3
              simp (disch := first | with_reducible rfl | assumption | omega | rfl | (simp only [go_sem]; first | done | omega)) only [go_sem, ↓reduceIte, reduceCtorEq, Nat.reduceEqDiff, Nat.reduceAdd, Nat.reduceSub, Nat.reduceMul, Nat.reduceDiv, Nat.reduceMod, Nat.reduceLeDiff, Nat.reduceLT, Nat.reduceBEq, Int.reduceEq, Int.reduceBEq, Int.reduceBNe, Int.reduceLT, Int.reduceLE, Int.reduceAdd, Int.reduceSub, Int.reduceNeg, Int.reduceToNat, Int.reducePow, Nat.reducePow, Int.reduceMul, Int.reduceDiv, ↓s_law_ExpirePlays_b0, hlen, hlt, ix, hcc, nw, fz, hH1, f1, enterK_eq (up2 e1), enterK_eq (up2 e2), enterK_eq (up2 e3), Bool.not_true, enterK_eq (up2 e5)]
              exact ih
            | false =>
              rw [hal] at e3
              have e4 := q_gets h1.ok r ky (mk []) 0 9 (by
                unfold getX aliveB at *
                rw [if_neg (fun h => h hc)]
                cases hg : getS S ky with
                | none => rfl
                | some x =>
                  rw [hg] at hal
                  show (if endB S now ky = true then _ else _) = _
                  cases hb : endB S now ky with
                  | true => rfl
                  | false => rw [hb] at hal; cases hal)
              have e4 : CC F.law_gets [pt c, .string ky, .string (mk []), .int .i64 0, .int .i64 9] H1 = some (.bool true, H1) := e4
              simp (disch := first | with_reducible rfl | assumption | omega | rfl | (simp only [go_sem]; first | done | omega)) only [go_sem, ↓reduceIte, reduceCtorEq, Nat.reduceEqDiff, Nat.reduceAdd, Nat.reduceSub, Nat.reduceMul, Nat.reduceDiv, Nat.reduceMod, Nat.reduceLeDiff, Nat.reduceLT, Nat.reduceBEq, Int.reduceEq, Int.reduceBEq, Int.reduceBNe, Int.reduceLT, Int.reduceLE, Int.reduceAdd, Int.reduceSub, Int.reduceNeg, Int.reduceToNat, Int.reducePow, Nat.reducePow, Int.reduceMul, Int.reduceDiv, ↓s_law_ExpirePlays_b0, hlen, hlt, ix, hcc, nw, fz, hH1, f1, enterK_eq (up2 e1), enterK_eq (up2 e2), enterK_eq (up2 e3), Bool.not_false, enterK_eq (up2 e4), Bool.not_true, enterK_eq (up2 e5)]
              exact ih
          · have e4 := q_gets h1.ok r ky (mk []) 0 (chk ky []) (by
              unfold getX
              rw [if_pos hc])
            have e4 : CC F.law_gets [pt c, .string ky, .string (mk []), .int .i64 0, .int .i64 (chk ky [])] H1 = some (.bool true, H1) := e4
            generalize chk ky [] = e at e1 e4 hc
            simp (disch := first | with_reducible rfl | assumption | omega | rfl | (simp only [go_sem]; first | done | omega)) only [go_sem, ↓reduceIte, reduceCtorEq, Nat.reduceEqDiff, Nat.reduceAdd, Nat.reduceSub, Nat.reduceMul, Nat.reduceDiv, Nat.reduceMod, Nat.reduceLeDiff, Nat.reduceLT, Nat.reduceBEq, Int.reduceEq, Int.reduceBEq, Int.reduceBNe, Int.reduceLT, Int.reduceLE, Int.reduceAdd, Int.reduceSub, Int.reduceNeg, Int.reduceToNat, Int.reducePow, Nat.reducePow, Int.reduceMul, Int.reduceDiv, ↓s_law_ExpirePlays_b0, hlen, hlt, ix, hcc, nw, fz, hH1, f1, enterK_eq (up2 e1), enterK_eq (up2 e2), hc, enterK_eq (up2 e4), Bool.not_true, enterK_eq (up2 e5)]
            exact ih
        · -- Copy; the first one goes on by itself
          obtain ⟨c2, m2, E2, H2, e1, r2, s2, nb2⟩ := hcopy H1 c m E S now h1.ok r
          obtain ⟨h2, u2⟩ := h1.still s2
          obtain ⟨m2', E2', r2c⟩ := h2.st
          obtain ⟨m3, E3, H3, e3, r3, x3⟩ := q_xPut h2.ok r2c (mk [111, 116, 104, 101, 114]) (mk [120]) 0
          obtain ⟨h3, u3⟩ := h2.upX x3 r3
          obtain ⟨m4, E4, H4, e4, r4, x4⟩ := q_xPass h3.ok r3 1099511627776
          obtain ⟨h4, u4⟩ := h3.upX x4 r4
          obtain ⟨v5, m5, E5, H5, e5, _, r5, x5, _⟩ := q_xSweep h4.ok r4 1
          obtain ⟨h5, u5⟩ := h4.upX x5 r5
          have e5 : CC F.expire_Store_Sweep [pt c, .int .i64 1] H4 = some (.tuple #[v5, .int .i64 0], H5) := e5
          -- the new one stays as it is
          have dc : ∀ b, OB H2 c2 b → ¬ OB H2 c b := fun b hb hh => by
            have := nb2 b hb
            have := h1.lt ((ob_still h1.c_lt s2 fun h => h).1 hh)
            omega
          have stay : ∀ {A B : AHeap} {mA : Option Nat} {EA : Ec}, StR A c2 mA EA S now → (∀ b, OB A c2 b → ¬ OB A c b) → UpX A c B → StR B c2 mA EA S now ∧ (∀ b, OB B c2 b → ¬ OB B c b) ∧ ∀ b, OB B c2 b ↔ OB A c2 b := fun {A B mA EA} rA dA u => by
            have hcA : c2 < A.n := rA.lt (.inl rfl)
            have hnc : ¬ OB A c c2 := dA c2 (.inl rfl)
            have ho : ∀ b, OB B c2 b ↔ OB A c2 b := fun b => ob_still hcA u.fr hnc
            refine ⟨rA.keep u.fr fun b _ hh hb => dA b hb hh, fun b hb hh => ?_, ho⟩
            rcases u.ob b hh with hh | hh
            · exact dA b ((ho b).1 hb) hh
            · have := rA.lt ((ho b).1 hb)
              omega
          obtain ⟨q3, d3, o3⟩ := stay r2 dc x3
          obtain ⟨q4, d4, o4⟩ := stay q3 d3 x4
          obtain ⟨q5, d5, o5⟩ := stay q4 d4 x5
          have u15 := UpP.trans h1 (UpP.trans h1 (UpP.trans h1 u2 u3) u4) u5
          have hob : ∀ b, OB H5 c2 b → H1.n ≤ b := fun b hb => nb2 b ((o3 b).1 ((o4 b).1 ((o5 b).1 hb)))
          have hlb : ∀ b, LB H5 mb b → LB H1 mb b := fun b hb => by
            have a5 : LB H5 mb b ↔ LB H4 mb b := lb_still h4.lm.1 x5.fr fun hh => h4.dj mb hh (.inl rfl)
            have a4 : LB H4 mb b ↔ LB H3 mb b := lb_still h3.lm.1 x4.fr fun hh => h3.dj mb hh (.inl rfl)
            have a3 : LB H3 mb b ↔ LB H2 mb b := lb_still h2.lm.1 x3.fr fun hh => h2.dj mb hh (.inl rfl)
            have a2 : LB H2 mb b ↔ LB H1 mb b := lb_still h1.lm.1 s2 fun h => h
            exact a2.1 (a3.1 (a4.1 (a5.1 hb)))
          have hp : PS c2 mb H5 S now S now := ⟨h5.ok, ⟨m2, E2, q5⟩, h5.lm, fun b hb hh => by
            have := hob b hb
            have := h1.lm.lt (hlb b hh)
            omega⟩
          obtain ⟨e6, H', ih⟩ := h_nextx IH hp (by omega) (Sp.rd s01 u15 r01) (fun b hb => by
            obtain ⟨a1, a2, a3⟩ := (s01 b hb).up u15
            refine ⟨a1, fun hh => ?_, a3⟩
            have := hob b hh
            have := (s01 b hb).1
            omega)
          refine ⟨H', fun K => ?_⟩
          have ih := ih K
          generalize (putX S now (mk [111, 116, 104, 101, 114]) (mk [120]) 0).1 = x1 at e3
          by_cases hw0 : 0 ≤ w
          · have hw3 : ¬ w ≤ 3 := fun h => hw ⟨hw0, h⟩
            generalize (passX now 1099511627776).1 = x2 at e4
            rw [r2_law_ExpirePlays_0]
            simp (disch := first | with_reducible rfl | assumption | omega | rfl | (simp only [go_sem]; first | done | omega)) only [go_sem, ↓reduceIte, reduceCtorEq, Nat.reduceEqDiff, Nat.reduceAdd, Nat.reduceSub, Nat.reduceMul, Nat.reduceDiv, Nat.reduceMod, Nat.reduceLeDiff, Nat.reduceLT, Nat.reduceBEq, Int.reduceEq, Int.reduceBEq, Int.reduceBNe, Int.reduceLT, Int.reduceLE, Int.reduceAdd, Int.reduceSub, Int.reduceNeg, Int.reduceToNat, Int.reducePow, Nat.reducePow, Int.reduceMul, Int.reduceDiv, ↓s_law_ExpirePlays_b0, hlen, hlt, ix, hcc, nw, fz, hH1, f1, hw0, hw3, w4, w5, ↓enterK_eq e1, enterK_eq e1, enterK_eq (up2 e3), enterK_eq (up2 e4), enterK_eq (up2 e5), Bool.not_true, enterK_eq (up2 e6)]
            exact ih
          · generalize (passX now 1099511627776).1 = x2 at e4
            rw [r2_law_ExpirePlays_0]
            simp (disch := first | with_reducible rfl | assumption | omega | rfl | (simp only [go_sem]; first | done | omega)) only [go_sem, ↓reduceIte, reduceCtorEq, Nat.reduceEqDiff, Nat.reduceAdd, Nat.reduceSub, Nat.reduceMul, Nat.reduceDiv, Nat.reduceMod, Nat.reduceLeDiff, Nat.reduceLT, Nat.reduceBEq, Int.reduceEq, Int.reduceBEq, Int.reduceBNe, Int.reduceLT, Int.reduceLE, Int.reduceAdd, Int.reduceSub, Int.reduceNeg, Int.reduceToNat, Int.reducePow, Nat.reducePow, Int.reduceMul, Int.reduceDiv, ↓s_law_ExpirePlays_b0, hlen, hlt, ix, hcc, nw, fz, hH1, f1, hw0, w4, w5, ↓enterK_eq e1, enterK_eq e1, enterK_eq (up2 e3), enterK_eq (up2 e4), enterK_eq (up2 e5), Bool.not_true, enterK_eq (up2 e6)]
            exact ih
end

theorem q_ExpirePlaysx (hcopy : CopyOK2) {v : Value} {l : List Act} {H : AHeap} (ok : Ok H) (r : Rd EAct H v l) (hvb : ∀ b, blockOf v = some b → b < H.n) (hl : l.length ≤ maxLen) : ∃ H', CC2 F.law_ExpirePlays [v] H = some (.bool true, H') := by
  have hs := q_small r 36 (Nat.le_trans hl (by decide)) (by decide)
  have hs : CC F.law_small [v, .int .i64 36] H = some (.bool (smallB l 36), H) := hs
  cases hb : smallB l 36 with
  | false =>
    rw [hb] at hs
    refine any_of (H1 := H) (d2_law_ExpirePlays _ H ?_)
    simp (disch := first | with_reducible rfl | assumption | omega | rfl | (simp only [go_sem]; first | done | omega)) only [go_sem, ↓reduceIte, reduceCtorEq, Nat.reduceEqDiff, Nat.reduceAdd, Nat.reduceSub, Nat.reduceMul, Nat.reduceDiv, Nat.reduceMod, Nat.reduceLeDiff, Nat.reduceLT, Nat.reduceBEq, Int.reduceEq, Int.reduceBEq, Int.reduceBNe, Int.reduceLT, Int.reduceLE, Int.reduceAdd, Int.reduceSub, Int.reduceNeg, Int.reduceToNat, Int.reducePow, Nat.reducePow, Int.reduceMul, Int.reduceDiv, ↓s_law_ExpirePlays, enterK_eq (up2 hs), e_known2]
  | true =>
    rw [hb] at hs
    have hl36 : l.length ≤ 36 := by
      unfold smallB at hb
      simp only [Bool.and_eq_true, decide_eq_true_eq] at hb
      exact hb.2
    obtain ⟨H1, hH1⟩ : ∃ H1, H.push (.cells [.slice none 0 0, .map none, .int .i64 0] T.expire_Store true) = H1 := ⟨_, rfl⟩
    obtain ⟨H2, hH2⟩ : ∃ H2, H1.push (.cells [.slice none 0 0, .int .i64 0] T.law_Model true) = H2 := ⟨_, rfl⟩
    have n1 : H1.n = H.n + 1 := by rw [← hH1]; rfl
    have n2 : H2.n = H.n + 2 := by rw [← hH2]; show H1.n + 1 = _; omega
    have s1 : Still H H1 := by rw [← hH1]; exact (Fr.refl H).push _
    have s12 : Still H1 H2 := by rw [← hH2]; exact (Fr.refl H1).push _
    have f1 : H1.f H.n = .cells [.slice none 0 0, .map none, .int .i64 0] T.expire_Store true := by rw [← hH1]; exact push_f_eq rfl
    have f2 : H2.f H1.n = .cells [.slice none 0 0, .int .i64 ((0 : Nat) : Int)] T.law_Model true := by rw [← hH2]; exact push_f_eq rfl
    have r1 : StR H1 H.n none [] [] 0 := r_empty f1 (by omega)
    have r2 := r1.still s12
    have lm : LM H2 H1.n [] 0 := ⟨by omega, .slice none 0 0, f2, Own.nil, fun h => by cases h⟩
    have hob : ∀ b, OB H2 H.n b → b = H.n := fun b hb => by
      have hb := (ob_still (by omega) s12 fun h => h).1 hb
      rcases hb with hb | ⟨u, m, n, hu, hb⟩
      · exact hb
      · rw [f1] at hu
        cases hu
        rcases hb with hb | hb <;> cases hb
    have hlb : ∀ b, LB H2 H1.n b → b = H1.n := fun b hb => by
      rcases hb with hb | ⟨u, n, hu, hb⟩
      · exact hb
      · rw [f2] at hu
        cases hu
        cases hb
    have s2 : Still H H2 := s1.trans s12
    have hp : PS H.n H1.n H2 [] 0 [] 0 := ⟨s2.ok ok, ⟨_, _, r2⟩, lm, fun b h1 h2 => by
      have := hob b h1
      have := hlb b h2
      omega⟩
    obtain ⟨H', g⟩ := l_p0x hcopy (v0 := v) (by omega) l 0 H.n H2 [] 0 rfl (Nat.zero_le _) hp (Nat.zero_le _) (r.still s2) fun b hb => by
      have := hvb b hb
      exact ⟨by omega, fun h => by have := hob b h; omega, fun h => by have := hlb b h; omega⟩
    have g : ∀ K, l2_law_ExpirePlays_0 v (pt H.n) (pt H1.n) (.int .i64 0) H2 (blkK [] 0 K) = K .normal [] H' := g
    have g' := g
    rw [n1] at g'
    refine any_of (H1 := H') (d2_law_ExpirePlays _ H ?_)
    simp (disch := first | with_reducible rfl | assumption | omega | rfl | (simp only [go_sem]; first | done | omega)) only [go_sem, ↓reduceIte, reduceCtorEq, Nat.reduceEqDiff, Nat.reduceAdd, Nat.reduceSub, Nat.reduceMul, Nat.reduceDiv, Nat.reduceMod, Nat.reduceLeDiff, Nat.reduceLT, Nat.reduceBEq, Int.reduceEq, Int.reduceBEq, Int.reduceBNe, Int.reduceLT, Int.reduceLE, Int.reduceAdd, Int.reduceSub, Int.reduceNeg, Int.reduceToNat, Int.reducePow, Nat.reducePow, Int.reduceMul, Int.reduceDiv, ↓s_law_ExpirePlays, enterK_eq (up2 hs), bldS_nil, hH1, hH2, g, g', e_known2]

theorem run_ExpirePlaysx (W : World) (v : Value) (l : List Act) (rl : RdS EAct T.law_Act (absHeap2 W) v l) (_ : ∀ x, x ∈ l → True) (hl : l.length ≤ maxLen) : ∃ k H', dCall Try.prog prims2 hints k F.law_ExpirePlays [v] (absHeap2 W) = some (.bool true, H') := by
  obtain ⟨H', h⟩ := q_ExpirePlaysx copyOK2 (H := absHeap2 W) (fun _ => Nat.zero_lt_one) rl.1 (slok_lt rl.2) hl
  obtain ⟨k, h⟩ := D_run h
  exact ⟨k, _, h⟩

end Go.Proofs.Ythjjkinpbpealaa

/-
  The law ExpirePlays: for every input it returns true, and its input reads as it did.
  Conditions: none. By an AI agent.
-/
namespace Go.Proofs.Ythjjkinpbpealaa.expirePlays
open Go.ChangeShapes Go.WideShapes Go.ChangeAt Go.RowKit
open Go.ChangeMaps (open_string shut_string)
set_option linter.unusedVariables false
theorem own : ownKnob Try.prog.godebug = none := by kernel_rfl
theorem laidOut : laidOutB Try.prog = true := by kernel_rfl
set_option maxRecDepth 100000 in
theorem lifted (os : Os) (started : os.Started) (H : Type) (enc : TypeId × Value → H) :
    ReturnsInHanded {} Try.checked os 5 .any (Rows.expirePlaysSpec.pre6 enc Try.prog Try.f5 Rows.expirePlaysRow.domain false) (Rows.expirePlaysSpec.post enc Try.prog Try.f5 false true false false) := by
  refine returnsInHanded_of_change_sized (C := Try.checked) own started (by kernel_rfl) Try.func5
    (ChangeSpec.witness6 (enc := enc) (C := Try.checked) false ⟨#[], #[.slice none 0 0], []⟩ 8 (by kernel_rfl) (by kernel_rfl) (by kernel_rfl) (by kernel_rfl)) ?_
  intro W base args ds gs before hval0 hW hcnd hsz0 _
  have hsz : (DataW.weightsEach Try.prog (Try.f5.params.toList ++ Rows.expirePlaysSpec.plain.varTypes Try.prog) (ds ++ gs)).all (· ≤ reachBytes) = true := hsz0
  have hval : ∀ (j : Nat) t v, Try.f5.params[j]? = some t → args[j]? = some v → Value.okWide Try.prog W .any base t v := hval0
  have hW' := hW
  obtain ⟨p, q, hA0, hV, rfl, hfz, hnd⟩ := hW
  have hA : DataW.TrodAll enc Try.prog W 0 (fun _ => true) true Try.f5.params.toList args.toList ds p := hA0
  rw [Try.params5] at hA hval hsz
  obtain ⟨v0, vs0, d0, ds0, p0, q0, hargs, rfl, rfl, h0, r0⟩ := trodAll_cons hA
  obtain ⟨rfl, rfl, rfl⟩ := trodAll_nil r0
  obtain rfl : args = #[v0] := by cases args; simp_all
  obtain ⟨rfl, rfl⟩ := trodVars_none hV
  have k0 := h0
  have lt0 : ∀ x ∈ p0, x.block < W.heap.size := by obtain ⟨m, hm⟩ := k0; exact DataW.trod_lt m _ _ _ hm
  obtain ⟨l0, rd0, all0, len0⟩ := Eng.open_rd2 (t := 40) (e' := 44) Try.underlying40 (by kernel_rfl) (fun hp cs n y h hl => decAct hp h hl) (hval 0 40 v0 rfl rfl) k0
  refine (Eng.law_calls2 (args := #[v0]) prims2_ok mixed (fun _ hg => absurd hg List.not_mem_nil) (run_ExpirePlaysx W (Eng.convA2 W.heap.size v0) l0 rd0 all0 len0)).mono fun e W' ⟨he, bel⟩ => ?_
  subst he
  exact ⟨_, rfl, _, _, _, [], _, [], hW', trodAll_mk1 (shut_bool Try.underlying4 _), (trodAll_cons_mk (Below.trod laidOut (by kernel_rfl) (of_decide_eq_true (by kernel_rfl)) k0 bel lt0) trodAll_mk0), rfl, bel.frame _, fun h => by cases h⟩

theorem over : Rows.expirePlaysRow.holds Try.pinned (OpenSpec.ofChange Rows.expirePlaysSpec) :=
  OpenClaim.holds_of_wide 5 Try.f5 rfl rfl rfl rfl rfl rfl rfl ⟨rfl, rfl, rfl, rfl, rfl⟩ rfl rfl rfl rfl rfl (by kernel_rfl) Try.func5 (by kernel_rfl)
    (of_decide_eq_true (by kernel_rfl)) (by unfold Func.isWrapper; first | (rw [if_pos (by decide +kernel)]; kernel_rfl) | (rw [if_neg (by decide +kernel)]; exact ⟨rfl, rfl⟩))
    (fun os started H enc _ => lifted os started H enc)
theorem proved : Rows.ExpirePlaysSaid := over
#print axioms proved
end Go.Proofs.Ythjjkinpbpealaa.expirePlays
namespace Go.Proofs.Ythjjkinpbpealaa
/-- The row, under a short name, for the claim. -/
theorem expirePlays_holds : Rows.ExpirePlaysSaid := expirePlays.proved
end Go.Proofs.Ythjjkinpbpealaa
