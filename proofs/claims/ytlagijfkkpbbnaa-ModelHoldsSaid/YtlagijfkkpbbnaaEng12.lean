/-
  The engine, part 12: one operation; what is forgotten behind a call.
  Conditions: none. By an AI agent.
-/
import Derived.Test.YtlagijfkkpbbnaaEng11
namespace Go.Proofs.Ytlagijfkkpbbnaa.Eng
open Go

variable {P : Program} {B : Nat} {ι : Emb} {H : AHeap} {w : World}

/-- The temporaries. -/
def RT (ι : Emb) (N : Nat) (T : Env) (tmps : Array Value) : Prop := N ≤ tmps.size ∧ ∀ t, RV ι (get T t) (tmps.getD t undef)

theorem RT.mono {ι' : Emb} (hι : ∀ b L, ι b = some L → ι' b = some L) {N : Nat} {T : Env} {tmps : Array Value} (h : RT ι N T tmps) : RT ι' N T tmps :=
  ⟨h.1, fun t => (h.2 t).mono hι⟩

theorem RT.ev {N : Nat} {T : Env} {a : Act} (h : RT ι N T a.tmps) (x : Operand) : RV ι (ev T x) (a.eval x) := by
  cases x with
  | tmp t => exact h.2 t
  | const v =>
    simp only [Eng.ev, Act.eval]
    split
    · exact gr_rel (by assumption)
    · exact .unk _
  | global g => exact .unk _
  | func f => exact gr_rel (n := 1) (by simp [Eng.ev, gr])

theorem RT.put {N : Nat} {T : Env} {a : Act} (h : RT ι N T a.tmps) {dst : Option Nat} (hd : dstOk N dst = true) {v v' : Value} (hv : RV ι v v') : RT ι N (put T dst v) (a.put dst v').tmps := by
  cases dst with
  | none => exact h
  | some d =>
    have hlt : d < a.tmps.size := by
      have : d < N := by simpa [dstOk] using hd
      exact Nat.lt_of_lt_of_le this h.1
    refine ⟨by simpa [Act.put] using h.1, fun t => ?_⟩
    simp only [Eng.put, get_cons]
    by_cases ht : t = d
    · subst ht
      simpa [Act.put, hlt] using hv
    · rw [if_neg ht]
      have := h.2 t
      simpa [Act.put, Array.getElem?_setIfInBounds_ne (Ne.symm ht)] using this

theorem RT.clr {N : Nat} {T : Env} {tmps : Array Value} (h : RT ι N T tmps) (keep : List Nat) : RT ι N (clr keep T) tmps := by
  refine ⟨h.1, fun t => ?_⟩
  rw [get_clr]
  split
  · exact h.2 t
  · exact .unk _

/-- The calls are as the model's. -/
def CallOK (P : Program) (call : CallF) : Prop :=
  ∀ f args H v H', call f args H = some (v, H') → Cl H → ADs H.n args → ∀ (B : Nat) (ι : Emb) (w : World) (args' : List Value), Rel P B ι H w → RVs ι args args' →
    Calls P f args'.toArray w fun e w' => ∃ v' ι', e = .returned v' ∧ RV ι' v v' ∧ Rel P B ι' H' w' ∧ Stp ι H w ι' H' w'

theorem goes_sound {N : Nat} {ops : Array Oper} {o : Oper} {T : Env} {a : Act} (h : RT ι N T a.tmps) {b : Bool} (hg : goes ops o T = some b) : Region.wanted o (yielded ops a.tmps) = b := by
  unfold goes at hg
  unfold Region.wanted
  cases ho : o.guard with
  | none => simp [ho] at hg; simp [hg]
  | some g =>
    obtain ⟨j, want⟩ := g
    simp only [ho] at hg
    cases hd : (ops[j]?).bind (·.dst) with
    | none => simp [hd] at hg
    | some d =>
      simp only [hd] at hg
      have hr := h.2 d
      unfold yielded
      simp only [hd]
      split at hg
      · rename_i b' hb
        rw [hb] at hr
        simp at hg
        generalize hq : a.tmps.getD d undef = q at hr
        cases hr
        have : a.tmps[d]? = some (.bool b') := by
          cases hx : a.tmps[d]? with
          | none => simp [hx, undef] at hq
          | some u => simp [hx] at hq; rw [hq]
        simp [this, ← hg]
      · rename_i vs hb
        rw [hb] at hr
        split at hg
        · rename_i h0
          simp at hg
          subst hg
          generalize hq : a.tmps.getD d undef = q at hr
          cases hr with
          | tup h1 h2 =>
            rename_i x'
            cases hx : a.tmps[d]? with
            | none => simp [hx]
            | some u => simp [hx] at hq; subst hq; simp [hx]
        · simp at hg
      · simp at hg

theorem step_sound {N : Nat} {call : CallF} (hc : CallOK P call) {ops : Array Oper} {o : Oper} {T : Env} {H' : AHeap} {v : Value} {a : Act} {Q : Exit → Act → World → Prop} {i : Nat} (hi : ops[i]? = some o)
    (r : Rel P B ι H w) (ht : RT ι N T a.tmps) (had : isEff o.op = true → Cl H ∧ AT H.n T) (h : dStep P N call ops o T H = some (v, H')) {K : Act → World → Prop}
    (hK : ∀ ι' v' w', RV ι' v v' → Rel P B ι' H' w' → Stp ι H w ι' H' w' → dstOk N o.dst = true → K (a.put o.dst v') w') : wpOp P ops Q i K a w := by
  unfold dStep at h
  split at h
  · rename_i hdst
    unfold wpOp
    simp only [hi]
    split at h
    · rename_i hg
      rw [goes_sound ht hg]
      simp only [if_true]
      refine .inl ?_
      split at h
      · rename_i v0 H0 hop
        simp at h
        obtain ⟨rfl, rfl⟩ := h
        obtain ⟨ι', nx, v', w', h1, h2, h3, h4, h5⟩ := dOp_val r ht.ev hop
        unfold Oper.wp
        rw [h1]
        cases nx <;> simp [nextVal] at h2
        · subst h2; exact hK ι' _ w' h3 h4 h5 hdst
        · subst h2; exact hK ι' _ w' h3 h4 h5 hdst
      · rename_i f args hop
        obtain ⟨args', h1, h2⟩ := dOp_enter (w := w) (P := P) ht.ev hop
        have he : isEff o.op = true := by
          cases hq : isEff o.op with
          | true => rfl
          | false => exact (dOp_pure hq hop).elim
        obtain ⟨hcl, hat⟩ := had he
        unfold Oper.wp
        rw [h2]
        refine (hc f args H v H' h hcl (dOp_ad_enter hat.ev hop) B ι w args' r h1).mono ?_
        rintro e w' ⟨v', ι', rfl, h3, h4, h5⟩
        exact hK ι' v' w' h3 h4 h5 hdst
      · simp at h
    · rename_i hg
      simp at h
      obtain ⟨rfl, rfl⟩ := h
      rw [goes_sound ht hg]
      simp only [Bool.false_eq_true, if_false]
      exact hK ι undef w undef_rel r (Stp.refl _ _ _ r.dom) hdst
    · simp at h
  · simp at h

/-- The contents of a block name nothing from n on. -/
theorem RB.low {n : Nat} {L : Loc} {k : Blk} (h : RB P B ι w L k) (hc : ∀ xs e rw, k = .cells xs e rw → ADs n xs) (hm : ∀ es, k = .map es → ∀ p, p ∈ es → AD n p.2) : RB P B (low n ι) w L k := by
  cases k with
  | dead => trivial
  | cells xs e rw =>
    obtain ⟨cs, e', fr, h1, h2, h3, h4, h5⟩ := h
    exact ⟨cs, e', fr, h1, h2, h3, fun i v hv => let ⟨v', a, b⟩ := h4 i v hv; ⟨v', a, b.low ((hc xs e rw rfl).get hv)⟩, h5⟩
  | map es =>
    obtain ⟨h0, ents, clock, h1, h2⟩ := h
    exact ⟨h0, ents, clock, h1, { h2 with fwd := fun p hp => let ⟨e, he, hk, hr⟩ := h2.fwd p hp; ⟨e, he, hk, hr.low (hm es rfl p hp)⟩ }⟩
  | siter s pos => exact h

theorem RB.lowCl {L : Loc} {b : Nat} (h : RB P B ι w L (H.f b)) (hc : Cl H) : RB P B (Eng.low H.n ι) w L (H.f b) :=
  h.low (fun xs e rw hk => hc.cells b xs e rw hk) (fun es hk => hc.maps b es hk)

theorem low_eq {ι' : Emb} {n : Nat} (hdom : ∀ b L, ι b = some L → b < n) (hext : ∀ b, b < n → ι' b = ι b) : low n ι' = ι := by
  funext b
  unfold low
  split
  · rename_i h; exact hext b h
  · rename_i h
    cases hq : ι b with
    | none => rfl
    | some L => exact absurd (hdom b L hq) h

/-- What a quiet call made may be forgotten. -/
theorem tidy_sound {ι' : Emb} {H' : AHeap} {w' : World} {v v' : Value} (hc : Cl H) (r : Rel P B ι H w) (hs : still H H' = true) (hg : gr 9 v = true) (hv : RV ι' v v') (r' : Rel P B ι' H' w') (s : Stp ι H w ι' H' w') :
    RV ι v v' ∧ Rel P B ι H w' ∧ Stp ι H w ι H w' := by
  have hf : ∀ b, b < H.n → H'.f b = H.f b := by
    intro b hb
    rcases s.vo.old b hb with h | h
    · exact h.2
    · unfold still at hs
      have := List.all_eq_true.1 hs b (by simpa using hb)
      have h1 : H'.ver b = H.ver b := by simpa using this
      have := hc.ver b
      omega
  have hlow : low H.n ι' = ι := low_eq r.dom s.ext
  have hup : ∀ b L, ι b = some L → ι' b = some L := s.up r.dom
  refine ⟨?_, ?_, ?_⟩
  · rw [gr_eq hg hv]; exact gr_rel hg
  · refine ⟨fun b L hb => ?_, fun b L hb => ⟨(r.lt b L hb).1, Nat.lt_of_lt_of_le (r.lt b L hb).2 s.wn⟩, r.inj, Nat.le_trans r.base s.wn, r.ver⟩
    have h1 := r'.blk b L (hup b L hb)
    rw [hf b (r.dom b L hb)] at h1
    have h2 := h1.lowCl hc
    rwa [hlow] at h2
  · exact ⟨fun _ _ => rfl, Nat.le_refl _, s.wn, s.os, s.tape, s.output, s.fr, fun b L hb h => absurd (r.dom b L h) (by omega), fun _ _ _ _ h => h, VO.refl _⟩

end Go.Proofs.Ytlagijfkkpbbnaa.Eng
