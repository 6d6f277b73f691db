/-
  The engine, part 10: code and calls name no block that is not there.
  Conditions: none. By an AI agent.
-/
import Derived.Test.YtlagijfkkpbbnaaEng9
namespace Go.Proofs.Ytlagijfkkpbbnaa.Eng
open Go

variable {P : Program} {H H' : AHeap}

theorem get_cons (d : Nat) (v : Value) (T : Env) (t : Nat) : get ((d, v) :: T) t = if t = d then v else get T t := by
  unfold get
  rw [List.lookup_cons]
  by_cases h : t = d
  · simp [h]
  · have : (t == d) = false := by simpa using h
    simp [this, h]

theorem get_clr (T : Env) : ∀ (keep : List Nat) (t : Nat), get (clr keep T) t = if t ∈ keep then get T t else top
  | [], t => by simp [clr, get]
  | k :: ks, t => by
    have ih := get_clr T ks t
    simp only [clr, List.map_cons] at ih ⊢
    rw [get_cons, ih]
    by_cases ht : t = k
    · simp [ht]
    · simp [ht]

theorem get_argEnv : ∀ (l : List Value) (i t : Nat), get (argEnv i l) t = if i ≤ t ∧ t < i + l.length then l.getD (t - i) top else top
  | [], i, t => by simp [argEnv, get]
  | v :: l, i, t => by
    rw [argEnv, get_cons, get_argEnv l (i + 1) t]
    by_cases h : t = i
    · subst h; simp
    · rw [if_neg h]
      by_cases h1 : i + 1 ≤ t ∧ t < i + 1 + l.length
      · rw [if_pos h1, if_pos (by simp; omega)]
        obtain ⟨d, hd⟩ : ∃ d, t - i = d + 1 := ⟨t - i - 1, by omega⟩
        rw [hd, show t - (i + 1) = d by omega]
        simp
      · rw [if_neg h1, if_neg (by simp; omega)]

/-- The temporaries name no block that is not there. -/
def AT (n : Nat) (T : Env) : Prop := ∀ t, AD n (get T t)

theorem AT.mono {n m : Nat} (h : n ≤ m) {T : Env} (a : AT n T) : AT m T := fun t => (a t).mono h
theorem AT.clr {n : Nat} {T : Env} (a : AT n T) (keep : List Nat) : AT n (clr keep T) := fun t => by
  rw [get_clr]; split
  · exact a t
  · exact .unk
theorem AT.put {n : Nat} {T : Env} (a : AT n T) (d : Option Nat) {v : Value} (hv : AD n v) : AT n (put T d v) := fun t => by
  cases d with
  | none => exact a t
  | some d =>
    simp only [Eng.put, get_cons]
    split
    · exact hv
    · exact a t
theorem AT.ev {n : Nat} {T : Env} (a : AT n T) (x : Operand) : AD n (ev T x) := by
  cases x with
  | tmp t => exact a t
  | const v =>
    simp only [Eng.ev]
    split
    · exact AD.of_gr (by assumption)
    · exact .unk
  | global g => exact .unk
  | func f => exact .func (fun v h => by simp at h) (fun v h => by simp at h)

theorem AT.args {n : Nat} {l : List Value} (h : ADs n l) : AT n (argEnv 0 l) := fun t => by
  rw [get_argEnv]
  split
  · rename_i ht
    rw [List.getD_eq_getElem?_getD, List.getElem?_eq_getElem (by omega : t - 0 < l.length)]
    exact h _ (by simp)
  · exact .unk

def CallAd (call : CallF) : Prop := ∀ f args H v H', call f args H = some (v, H') → Cl H → ADs H.n args → OkV H H' v

/-- What holds behind a piece. -/
structure OkT (H : AHeap) (T' : Env) (H' : AHeap) : Prop where
  cl : Cl H'
  at_ : AT H'.n T'
  vo : VO H H'

theorem undef_ad {n : Nat} : AD n undef := AD.of_gr (k := 1) (by simp [gr, undef])

theorem step_ad {N : Nat} {call : CallF} (hc : CallAd call) {ops : Array Oper} {o : Oper} {T : Env} {v : Value} (hl : Cl H) (ha : AT H.n T) (h : dStep P N call ops o T H = some (v, H')) : OkV H H' v := by
  unfold dStep at h
  split at h
  · split at h
    · split at h
      · rename_i v0 H0 hop
        simp at h
        obtain ⟨rfl, rfl⟩ := h
        exact dOp_ad hl ha.ev hop
      · rename_i f args hop
        exact hc f args H v H' h hl (dOp_ad_enter ha.ev hop)
      · simp at h
    · simp at h
      obtain ⟨rfl, rfl⟩ := h
      exact OkV.still hl undef_ad
    · simp at h
  · simp at h

theorem OkV.next {T : Env} {v : Value} (o : OkV H H' v) (ha : AT H.n T) (d : Option Nat) : OkT H (put T d v) H' :=
  ⟨o.1, (ha.mono o.2.2.n).put d o.2.1, o.2.2⟩

theorem OkT.trans {T' T'' : Env} {H'' : AHeap} (a : OkT H T' H') (b : OkT H' T'' H'') : OkT H T'' H'' := ⟨b.cl, b.at_, a.vo.trans b.vo⟩
theorem OkT.clr {T' : Env} (a : OkT H T' H') (keep : List Nat) : OkT H (clr keep T') H' := ⟨a.cl, a.at_.clr keep, a.vo⟩
theorem OkT.refl {T : Env} (hl : Cl H) (ha : AT H.n T) : OkT H T H := ⟨hl, ha, VO.refl _⟩

theorem ops_ad {N : Nat} {call : CallF} (hc : CallAd call) {ops : Array Oper} {T' : Env} : ∀ (l : List Oper) {T : Env} {H : AHeap}, Cl H → AT H.n T → dOps P N call ops l T H = some (T', H') → OkT H T' H'
  | [], T, H, hl, ha, h => by
    simp [dOps] at h
    obtain ⟨rfl, rfl⟩ := h
    exact OkT.refl hl ha
  | o :: l, T, H, hl, ha, h => by
    simp only [dOps, Option.bind_eq_some_iff] at h
    obtain ⟨⟨v, H1⟩, h1, h2⟩ := h
    have k := (step_ad hc hl ha h1).next ha o.dst
    exact k.trans (ops_ad hc l k.cl k.at_ h2)

/-- The states of a walk in the order of the text. -/
structure Tr (P : Program) (N : Nat) (call : CallF) (ops : Array Oper) (F : Nat → Env × AHeap) (vs : Nat → Value) : Prop where
  step : ∀ (k : Nat) (o : Oper), ops[k]? = some o → dStep P N call ops o (clr (looks ops o) (F k).1) (F k).2 = some (vs k, (F (k + 1)).2)
  env : ∀ (k : Nat) (o : Oper), ops[k]? = some o → (F (k + 1)).1 = put (F k).1 o.dst (vs k)

theorem trace_list {N : Nat} {call : CallF} {ops : Array Oper} : ∀ (l : List Oper) {T : Env} {H : AHeap} {tr : List (Env × AHeap)}, dTrace P N call ops l T H = some tr →
    ∃ (F : Nat → Env × AHeap) (vs : Nat → Value), F 0 = (T, H) ∧ (∀ k, k ≤ l.length → tr[k]? = some (F k)) ∧ tr.length = l.length + 1 ∧
      (∀ k o, l[k]? = some o → dStep P N call ops o (clr (looks ops o) (F k).1) (F k).2 = some (vs k, (F (k + 1)).2) ∧ (F (k + 1)).1 = put (F k).1 o.dst (vs k))
  | [], T, H, tr, h => by
    simp [dTrace] at h
    subst h
    exact ⟨fun _ => (T, H), fun _ => undef, rfl, fun k hk => by simp at hk; subst hk; rfl, rfl, fun k o h => by simp at h⟩
  | o :: l, T, H, tr, h => by
    simp only [dTrace, Option.bind_eq_some_iff, Option.map_eq_some_iff] at h
    obtain ⟨⟨v, H1⟩, h1, tr1, h2, rfl⟩ := h
    obtain ⟨F, vs, f0, f1, f2, f3⟩ := trace_list l h2
    refine ⟨fun k => if k = 0 then (T, H) else F (k - 1), fun k => if k = 0 then v else vs (k - 1), rfl, ?_, by simp [f2], ?_⟩
    · intro k hk
      cases k with
      | zero => rfl
      | succ k => simpa using f1 k (by simpa using hk)
    · intro k o' ho'
      cases k with
      | zero => simp at ho'; subst ho'; simp [f0, h1]
      | succ k => simpa using f3 k o' (by simpa using ho')

theorem draw_spec {N : Nat} {call : CallF} {ops : Array Oper} {T T' : Env} (h : dDraw P N call ops T H = some (T', H')) :
    drawOk ops = true ∧ ∃ tr F vs, F 0 = (T, H) ∧ (∀ k, k ≤ ops.size → tr[k]? = some (F k)) ∧ (clash ops).all (okPair ops tr) = true ∧ F ops.size = (T', H') ∧ Tr P N call ops F vs := by
  unfold dDraw at h
  split at h
  · rename_i hd
    simp only [Option.bind_eq_some_iff] at h
    obtain ⟨tr, h1, h2⟩ := h
    split at h2
    · rename_i hp
      obtain ⟨F, vs, f0, f1, f2, f3⟩ := trace_list _ h1
      refine ⟨hd, tr, F, vs, f0, fun k hk => f1 k (by simpa using hk), hp, ?_, fun k o ho => (f3 k o (by simpa using ho)).1, fun k o ho => (f3 k o (by simpa using ho)).2⟩
      have := f1 ops.size (by simp)
      rw [List.getLast?_eq_getElem?, f2] at h2
      simp at h2
      rw [h2] at this
      simpa using this.symm
    · simp at h2
  · simp at h

theorem Tr.ad {N : Nat} {call : CallF} (hc : CallAd call) {ops : Array Oper} {F : Nat → Env × AHeap} {vs : Nat → Value} (t : Tr P N call ops F vs) (hl : Cl (F 0).2) (ha : AT (F 0).2.n (F 0).1) :
    ∀ k, k ≤ ops.size → OkT (F 0).2 (F k).1 (F k).2
  | 0, _ => OkT.refl hl ha
  | k + 1, hk => by
    have ih := t.ad hc hl ha k (by omega)
    have ho : ops[k]? = some ops[k] := by simp [show k < ops.size by omega]
    have s := step_ad hc ih.cl (ih.at_.clr _) (t.step k _ ho)
    have := s.next ih.at_ ops[k].dst
    rw [← t.env k _ ho] at this
    exact ih.trans this

theorem draw_ad {N : Nat} {call : CallF} (hc : CallAd call) {ops : Array Oper} {T T' : Env} (hl : Cl H) (ha : AT H.n T) (h : dDraw P N call ops T H = some (T', H')) : OkT H T' H' := by
  obtain ⟨_, tr, F, vs, f0, _, _, f1, t⟩ := draw_spec h
  have := t.ad hc (by rw [f0]; exact hl) (by rw [f0]; exact ha) ops.size (Nat.le_refl _)
  rw [f0, f1] at this
  exact this

def PieceAd (piece : Env → AHeap → DRes) : Prop := ∀ T H x T' H', piece T H = some (x, T', H') → Cl H → AT H.n T → OkT H T' H'

theorem loop_ad {body : Env → AHeap → DRes} (hb : PieceAd body) (keep : List Nat) : ∀ m, PieceAd (dLoop body keep m)
  | 0 => by intro T H x T' H' h; simp [dLoop] at h
  | m + 1 => by
    intro T H x T' H' h hl ha
    simp only [dLoop, Option.bind_eq_some_iff] at h
    obtain ⟨⟨x1, T1, H1⟩, h1, h2⟩ := h
    have k := hb _ _ _ _ _ h1 hl (ha.clr keep)
    cases x1 with
    | normal => exact k.trans (loop_ad hb keep m _ _ _ _ _ h2 k.cl k.at_)
    | exit id => simp at h2; obtain ⟨rfl, rfl, rfl⟩ := h2; exact k
    | ret => simp at h2; obtain ⟨rfl, rfl, rfl⟩ := h2; exact k

theorem code_ad {N n : Nat} {call : CallF} (hc : CallAd call) : ∀ (c : DCode), PieceAd (dCode P N call n c)
  | .skip => by
    intro T H x T' H' h hl ha
    simp [dCode] at h
    obtain ⟨rfl, rfl, rfl⟩ := h
    exact OkT.refl hl ha
  | .region id ops draw => by
    intro T H x T' H' h hl ha
    simp only [dCode, Option.map_eq_some_iff] at h
    obtain ⟨⟨T1, H1⟩, h1, h2⟩ := h
    cases h2
    cases draw with
    | false => exact ops_ad hc _ hl ha (by simpa using h1)
    | true => exact draw_ad hc hl ha (by simpa using h1)
  | .seq p q => by
    intro T H x T' H' h hl ha
    simp only [dCode, Option.bind_eq_some_iff] at h
    obtain ⟨⟨x1, T1, H1⟩, h1, h2⟩ := h
    have k := code_ad hc p _ _ _ _ _ h1 hl ha
    cases x1 with
    | normal => exact k.trans (code_ad hc q _ _ _ _ _ h2 k.cl k.at_)
    | exit id => simp at h2; obtain ⟨rfl, rfl, rfl⟩ := h2; exact k
    | ret => simp at h2; obtain ⟨rfl, rfl, rfl⟩ := h2; exact k
  | .cond keep c p q => by
    intro T H x T' H' h hl ha
    simp only [dCode] at h
    split at h
    · rename_i b hb
      simp only [Option.map_eq_some_iff] at h
      obtain ⟨⟨x1, T1, H1⟩, h1, h2⟩ := h
      have k : OkT H T1 H1 := by
        cases b with
        | true => exact code_ad hc p _ _ _ _ _ (by simpa using h1) hl ha
        | false => exact code_ad hc q _ _ _ _ _ (by simpa using h1) hl ha
      cases x1 with
      | normal => cases h2; exact k.clr keep
      | exit id => cases h2; exact k
      | ret => cases h2; exact k
    · simp at h
  | .block keep id p => by
    intro T H x T' H' h hl ha
    simp only [dCode, Option.map_eq_some_iff] at h
    obtain ⟨⟨x1, T1, H1⟩, h1, h2⟩ := h
    have k := code_ad hc p _ _ _ _ _ h1 hl ha
    cases x1 with
    | normal => cases h2; exact k.clr keep
    | exit j =>
      simp only at h2
      split at h2
      · cases h2; exact k.clr keep
      · cases h2; exact k
    | ret => cases h2; exact k
  | .loop keep p => by
    intro T H x T' H' h hl ha
    simp only [dCode] at h
    exact loop_ad (code_ad hc p) keep n _ _ _ _ _ h hl ha
  | .exit id => by
    intro T H x T' H' h hl ha
    simp [dCode] at h
    obtain ⟨rfl, rfl, rfl⟩ := h
    exact OkT.refl hl ha
  | .ret keep => by
    intro T H x T' H' h hl ha
    simp [dCode] at h
    obtain ⟨rfl, rfl, rfl⟩ := h
    exact (OkT.refl hl ha).clr keep
  | .bad c => by
    intro T H x T' H' h hl ha
    simp [dCode] at h

theorem resVals_ad {T : Env} (hl : Cl H) (ha : AT H.n T) : ∀ {rs : List ResultVar} {l : List Value}, resVals P H T rs = some l → ADs H.n l
  | [], l, h => by simp [resVals] at h; subst h; exact ADs.nil
  | r :: rs, l, h => by
    simp only [resVals, Option.bind_eq_some_iff, Option.map_eq_some_iff] at h
    obtain ⟨v, hv, l1, hl1, rfl⟩ := h
    refine ADs.cons ?_ (resVals_ad hl ha hl1)
    cases r with
    | tmp t => simp [resVal] at hv; subst hv; exact ha t
    | cell b t => exact xload_ad hl hv

theorem resultOf_ad {n : Nat} {l : List Value} (h : ADs n l) : AD n (resultOf l) := by
  unfold resultOf
  split
  · exact h _ (by simp)
  · exact .tup (fun v hv => h v (by simpa using hv))

theorem body_ad {hints : Hints} {call : CallF} (hc : CallAd call) (n : Nat) : CallAd (dBody P hints call n) := by
  intro f args H v H' h hl ha
  unfold dBody at h
  split at h
  · split at h
    · simp only [Option.bind_eq_some_iff] at h
      obtain ⟨⟨x, T1, H1⟩, h1, h2⟩ := h
      have k := code_ad hc _ _ _ _ _ _ h1 hl (AT.args ha)
      cases x with
      | exit id => simp at h2
      | normal =>
        simp only [Option.map_eq_some_iff] at h2
        obtain ⟨l, hl', h2⟩ := h2
        cases h2
        exact ⟨k.cl, resultOf_ad (resVals_ad k.cl k.at_ hl'), k.vo⟩
      | ret =>
        simp only [Option.map_eq_some_iff] at h2
        obtain ⟨l, hl', h2⟩ := h2
        cases h2
        exact ⟨k.cl, resultOf_ad (resVals_ad k.cl k.at_ hl'), k.vo⟩
    · simp at h
  · simp at h

theorem tidy_ad {r : Value × AHeap} {v : Value} (hl : Cl H) (o : OkV H r.2 r.1) (h : tidy H r = (v, H')) : OkV H H' v := by
  unfold tidy at h
  split at h
  · rename_i hg
    cases h
    exact OkV.still hl (AD.of_gr (k := 9) (by simp at hg; exact hg.1))
  · subst h; exact o

theorem call_ad {prims : Prims} {hints : Hints} (hp : ∀ f p, prims f = some p → CallAd fun _ args H => p args H) : ∀ n, CallAd (dCall P prims hints n)
  | 0 => by intro f args H v H' h; simp [dCall] at h
  | n + 1 => by
    intro f args H v H' h hl ha
    simp only [dCall] at h
    split at h
    · rename_i p hpf
      exact hp f p hpf f args H v H' h hl ha
    · simp only [Option.map_eq_some_iff] at h
      obtain ⟨r, h1, h2⟩ := h
      exact tidy_ad hl (body_ad (call_ad hp n) n f args H _ _ h1 hl ha) h2

end Go.Proofs.Ytlagijfkkpbbnaa.Eng
