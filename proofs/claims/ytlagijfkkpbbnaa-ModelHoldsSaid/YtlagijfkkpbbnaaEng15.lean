/-
  The engine, part 15: regions, code, loops, calls.
  Conditions: none. By an AI agent.
-/
import Derived.Test.YtlagijfkkpbbnaaEng14
namespace Go.Proofs.Ytlagijfkkpbbnaa.Eng
open Go
set_option linter.unusedVariables false
set_option linter.unusedSimpArgs false

variable {P : Program} {B : Nat} {ι : Emb} {H : AHeap} {w : World}

/-! ### Drawn regions -/

def left (S : Nat → Bool) : Nat → Nat
  | 0 => 0
  | n + 1 => left S n + (if S n then 0 else 1)

theorem left_all {S : Nat → Bool} : ∀ {n : Nat}, left S n = 0 → ∀ k, k < n → S k = true
  | 0, _, k, hk => by omega
  | n + 1, h, k, hk => by
    unfold left at h
    by_cases hn : S n = true
    · rw [if_pos hn] at h
      by_cases hkn : k = n
      · subst hkn; exact hn
      · exact left_all (by omega) k (by omega)
    · rw [if_neg hn] at h; omega

theorem left_same {S S' : Nat → Bool} : ∀ {n : Nat}, (∀ k, k < n → S k = S' k) → left S n = left S' n
  | 0, _ => rfl
  | n + 1, h => by
    unfold left
    rw [left_same fun k hk => h k (by omega), h n (by omega)]

theorem left_add {S : Nat → Bool} {j : Nat} (hS : S j = false) : ∀ {n : Nat}, j < n → left (add S j) n + 1 = left S n
  | 0, h => by omega
  | n + 1, h => by
    unfold left
    by_cases hj : j = n
    · subst hj
      rw [left_same (S := add S j) (S' := S) fun k hk => by simp [add, show (k == j) = false by simp; omega]]
      simp [hS, add]
    · have := left_add hS (n := n) (by omega)
      simp only [add, show (n == j) = false by simp; omega, Bool.false_or] at this ⊢
      omega

theorem left_le {S : Nat → Bool} : ∀ n, left S n ≤ n
  | 0 => Nat.le_refl _
  | n + 1 => by
    unfold left
    have := left_le (S := S) n
    split <;> omega

theorem any_sound {N : Nat} {call : CallF} {ops : Array Oper} {F : Nat → Env × AHeap} {vs : Nat → Value} (W : Walk P N call ops F vs) (hc : CallOK P call) {ι0 : Emb} {w0 : World} {Q : Exit → Act → World → Prop}
    (hQ : ∀ S e ι a w, (∀ k, k < ops.size → S k = true) → Inv P B N ops F vs ι0 w0 S e ι a w → Q .normal a w) :
    ∀ (fuel : Nat) (listed : Array Bool) (S : Nat → Bool) (e : Nat) (ι : Emb) (a : Act) (w : World), listed.size = ops.size → (∀ k, S k = listed.getD k false) → Inv P B N ops F vs ι0 w0 S e ι a w → left S ops.size ≤ fuel →
      wpAny P .any ops Q fuel listed a w := by
  have hdone : ∀ (listed : Array Bool) (S : Nat → Bool) (e : Nat) (ι : Emb) (a : Act) (w : World), listed.size = ops.size → (∀ k, S k = listed.getD k false) → Inv P B N ops F vs ι0 w0 S e ι a w → Region.ready .any ops listed = [] → Q .normal a w := by
    intro listed S e ι a w hsz hl I hr
    refine hQ S e ι a w ?_ I
    intro k
    induction k using Nat.strongRecOn with
    | _ k ih =>
      intro hk
      cases hS : S k with
      | true => rfl
      | false =>
        have : k ∈ Region.ready .any ops listed := by
          rw [mem_ready]
          refine ⟨?_, ops[k], by simp [hk], fun e he hb => ?_⟩
          · have := hl k
            rw [hS] at this
            simp [show k < listed.size by omega] at this ⊢
            exact this
          · have hlt := W.ord.back k _ (by simp [hk]) e he hb
            rw [← hl]
            exact ih e.on hlt (by omega)
        rw [hr] at this
        cases this
  intro fuel
  induction fuel with
  | zero =>
    intro listed S e ι a w hsz hl I hf
    have hall := left_all (Nat.le_zero.1 hf)
    have hr : Region.ready .any ops listed = [] := by
      apply List.eq_nil_iff_forall_not_mem.2
      intro j hj
      rw [mem_ready] at hj
      obtain ⟨h0, o, ho, _⟩ := hj
      have hlt : j < ops.size := (Array.getElem?_eq_some_iff.1 ho).1
      have := hall j hlt
      rw [hl] at this
      simp [show j < listed.size by omega] at this h0
      rw [this] at h0
      cases h0
    exact ⟨hr, hdone listed S e ι a w hsz hl I hr⟩
  | succ fuel ih =>
    intro listed S e ι a w hsz hl I hf
    refine ⟨hdone listed S e ι a w hsz hl I, fun j hj => ?_⟩
    rw [mem_ready] at hj
    obtain ⟨h0, o, ho, hr⟩ := hj
    have hlt : j < ops.size := (Array.getElem?_eq_some_iff.1 ho).1
    have hS : S j = false := by
      rw [hl]
      simp [show j < listed.size by omega] at h0 ⊢
      exact h0
    refine I.op W hc ho hS (fun e he hb => by rw [hl]; exact hr e he hb) fun e' ι' a' w' J => ?_
    refine ih _ (add S j) e' ι' a' w' (by simpa using hsz) (fun k => ?_) J ?_
    · by_cases hk : k = j
      · subst hk; simp [add, show k < listed.size by omega]
      · rw [getD_set_ne false (Ne.symm hk), ← hl]
        simp [add, hk]
    · have := left_add hS hlt
      omega

/-- The state of a walk. -/
structure St (P : Program) (B : Nat) (N : Nat) (ι : Emb) (T : Env) (H : AHeap) (a : Act) (w : World) : Prop where
  rel : Rel P B ι H w
  tmps : RT ι N T a.tmps
  defers : a.defers = []
  cl : Cl H
  ad : AT H.n T

theorem St.ok {N : Nat} {T : Env} {a : Act} (s : St P B N ι T H a w) {ι' : Emb} {H' : AHeap} {a' : Act} {w' : World} {T' : Env} (r : Rel P B ι' H' w') (t : RT ι' N T' a'.tmps) (d : a'.defers = []) (o : OkT H T' H') : St P B N ι' T' H' a' w' :=
  ⟨r, t, d, o.cl, o.at_⟩

theorem walk_of {N : Nat} {call : CallF} (ha : CallAd call) {ops : Array Oper} {T T' : Env} {H' : AHeap} (hl : Cl H) (hat : AT H.n T) (h : dDraw P N call ops T H = some (T', H')) :
    ∃ F vs, F 0 = (T, H) ∧ F ops.size = (T', H') ∧ Walk P N call ops F vs := by
  obtain ⟨hd, tr, F, vs, f0, f1, f2, f3, t⟩ := draw_spec h
  have hok := t.ad ha (by rw [f0]; exact hl) (by rw [f0]; exact hat)
  refine ⟨F, vs, f0, f3, t, hok, fun k hk => ?_, drawOk_ord hd, fun i j oi oj hi hj hei hej hap => ?_⟩
  · have ho : ops[k]? = some ops[k] := by simp [hk]
    exact (step_ad ha (hok k (by omega)).cl ((hok k (by omega)).at_.clr _) (t.step k _ ho)).2.2
  · have hm : (i, j) ∈ clash ops := by
      unfold clash
      refine List.mem_flatMap.2 ⟨(oi, i), mem_zip hi, ?_⟩
      simp only [hei, if_true]
      exact List.mem_filterMap.2 ⟨(oj, j), mem_zip hj, by simp [hej, hap]⟩
    have hp := List.all_eq_true.1 f2 _ hm
    have hil : i < ops.size := (Array.getElem?_eq_some_iff.1 hi).1
    have hjl : j < ops.size := (Array.getElem?_eq_some_iff.1 hj).1
    unfold okPair at hp
    simp only [f1 i (by omega), f1 (i + 1) (by omega), f1 j (by omega), f1 (j + 1) (by omega), hj, Bool.and_eq_true, Bool.or_eq_true, decide_eq_true_eq, beq_iff_eq] at hp
    refine ⟨fun hg k hk => ?_, ?_⟩
    · have h1 := hp.1
      split at h1
      · rename_i h2; exact absurd h2 hg
      · rw [hk] at h1
        simpa using h1
    · rcases hp.2 with (h1 | h1) | h1
      · exact .inl h1
      · exact .inr (.inl h1)
      · exact .inr (.inr h1)

theorem draw_sound {N id : Nat} {call : CallF} (hc : CallOK P call) (ha : CallAd call) (hm : P.follows .mixedOrders = true) {ops : Array Oper} {Q : Exit → Act → World → Prop} {T T' : Env} {H' : AHeap} {a : Act} (s : St P B N ι T H a w)
    (h : dDraw P N call ops T H = some (T', H')) (hQ : ∀ ι' a' w', St P B N ι' T' H' a' w' → Stp ι H w ι' H' w' → Q .normal a' w') : (Code.region id ops true).wp P Q a w := by
  obtain ⟨F, vs, f0, f1, W⟩ := walk_of ha s.cl s.ad h
  refine wp_region_any hm ?_
  have e0 : (F 0).1 = T := by rw [f0]
  have e1 : (F 0).2 = H := by rw [f0]
  let w1 : World := { w with drawn := w.drawn + 1 }
  have r1 : Rel P B ι H w1 := s.rel.congr rfl
  have s1 : Stp ι H w ι H w1 := ⟨fun _ _ => rfl, Nat.le_refl _, Nat.le_refl _, rfl, rfl, rfl, fun _ _ _ => rfl, fun b L hb h => absurd (s.rel.dom b L h) (by omega), fun _ _ _ _ h => h, VO.refl _⟩
  have hcon : ∀ b, b < H.n → con F ops.size 0 b = H.f b := fun b hb => by rw [con_at (by rw [e1]; exact hb), e1]
  have hn : H.n ≤ (F ops.size).2.n := by have := W.n_mono (j := 0) (Nat.zero_le _) (Nat.le_refl _); rwa [e1] at this
  have I0 : Inv P B N ops F vs ι w1 (fun _ => false) 0 ι a w1 := by
    refine ⟨fun k o ho h => by simp at h, fun k h => by simp at h, Nat.zero_le _, fun k o ho he => by simp, fun b L h => .inl (by rw [e1]; exact s.rel.dom b L h), ?_, ?_, s.tmps.1, fun k o t ho h => by simp at h, fun t _ => by rw [e0]; exact s.tmps.2 t, s.defers⟩
    · refine ⟨fun b L h => ?_, fun b L h => ⟨Nat.lt_of_lt_of_le (s.rel.dom b L h) hn, (r1.lt b L h).2⟩, fun b c L M h1 h2 hne ho hal => ?_, r1.base, fun b => Nat.lt_succ_self _⟩
      · change RB P B ι w1 L (con F ops.size 0 b)
        rw [hcon b (s.rel.dom b L h)]
        exact r1.blk b L h
      · change owned (con F ops.size 0 b) = true at ho
        change alive (con F ops.size 0 c) = true at hal
        rw [hcon b (s.rel.dom b L h1)] at ho
        rw [hcon c (s.rel.dom c M h2)] at hal
        exact r1.inj b c L M h1 h2 hne ho hal
    · rw [e1]
      refine ⟨fun _ _ => rfl, hn, Nat.le_refl _, rfl, rfl, rfl, fun _ _ _ => rfl, fun b L hb h => absurd (s.rel.dom b L h) (by omega), fun b L hb _ ho => ?_, hn, Nat.le_succ _, fun b _ => .inr (Nat.le_refl _), fun b hb h => ?_⟩
      · change owned (con F ops.size 0 b) = true at ho
        rwa [hcon b hb] at ho
      · change alive (con F ops.size 0 b) = true at h
        rwa [hcon b hb] at h
  refine any_sound W hc (ι0 := ι) (w0 := w1) ?_ ops.size (Array.replicate ops.size false) (fun _ => false) 0 ι a w1 (by simp) (fun k => by simp [Array.getElem?_replicate]; split <;> rfl) I0 (left_le _)
  intro S e ι' a' w' hall I
  have I2 := I.move W (e' := ops.size) I.le (Nat.le_refl _) fun k o h1 h2 ho => by
    cases hq : isEff o.op with
    | false => rfl
    | true =>
      have := (I.ev k o ho hq).1 (hall k h2)
      omega
  have okz := W.ok ops.size (Nat.le_refl _)
  rw [f1, e1] at okz
  have hG : ∀ b, (Gat F ops.size (F 0).2.clk ops.size).f b = H'.f b := fun b => by
    change con F (ops.size - ops.size) ops.size b = _
    rw [Nat.sub_self]
    change (F ops.size).2.f b = _
    rw [f1]
  have hGn : (Gat F ops.size (F 0).2.clk ops.size).n = H'.n := by change (F ops.size).2.n = _; rw [f1]
  have rel' : Rel P B ι' H' w' := by
    refine ⟨fun b L h => ?_, fun b L h => ?_, fun b c L M h1 h2 hne ho hal => ?_, I2.rel.base, okz.cl.ver⟩
    · rw [← hG b]; exact I2.rel.blk b L h
    · rw [← hGn]; exact I2.rel.lt b L h
    · exact I2.rel.inj b c L M h1 h2 hne (by rw [hG]; exact ho) (by rw [hG]; exact hal)
  have st' : Stp ι H w1 ι' H' w' := by
    have st := I2.stp
    rw [e1] at st
    refine ⟨st.ext, okz.vo.n, st.wn, st.os, st.tape, st.output, st.fr, st.new, fun b L hb hl ho => ?_, okz.vo⟩
    exact st.own b L hb hl (by rw [← e1, hG]; exact ho)
  refine hQ ι' a' w' ⟨rel', ⟨I2.tN, fun t => ?_⟩, I2.df, okz.cl, okz.at_⟩ (s1.trans st')
  rcases W.tr.last t ops.size (Nat.le_refl _) with ⟨k, o, h1, h2, h3, h4, h5⟩ | ⟨h1, h2⟩
  · rw [f1] at h5
    rw [h5]
    exact I2.tw k o t h2 (hall k h1) h3 fun k' o' ho' hk' hlt => h4 k' o' hlt (I2.lt k' hk') ho'
  · rw [f1] at h2
    rw [h2]
    exact I2.t0 t fun k o ho hk => h1 k o (I2.lt k hk) ho

/-! ### Code -/

theorem St.next {N : Nat} {T : Env} {a : Act} (s : St P B N ι T H a w) {ι' : Emb} {H' : AHeap} {w' : World} {v v' : Value} {dst : Option Nat} (hv : RV ι' v v') (hr : Rel P B ι' H' w') (hs : Stp ι H w ι' H' w')
    (hd : dstOk N dst = true) (ho : OkV H H' v) : St P B N ι' (put T dst v) H' (a.put dst v') w' :=
  ⟨hr, (s.tmps.mono (hs.up s.rel.dom)).put hd hv, by cases dst <;> exact s.defers, ho.1, (ho.next s.ad dst).at_⟩

theorem ops_sound {N : Nat} {call : CallF} (hc : CallOK P call) (hca : CallAd call) {ops : Array Oper} {Q : Exit → Act → World → Prop} {T' : Env} {H' : AHeap} : ∀ (k : Nat) (l : List Nat) {ι : Emb} {T : Env} {H : AHeap} {a : Act} {w : World},
    l = List.range' k (ops.size - k) → St P B N ι T H a w → dOps P N call ops (ops.toList.drop k) T H = some (T', H') →
    (∀ ι' a' w', St P B N ι' T' H' a' w' → Stp ι H w ι' H' w' → Q .normal a' w') → wpOps P ops Q l a w := by
  intro k l
  induction l generalizing k with
  | nil =>
    intro ι T H a w hl s h hQ
    have hk : ops.toList.drop k = [] := by
      have := congrArg List.length hl
      simp at this
      apply List.drop_eq_nil_of_le
      simp
      omega
    rw [hk] at h
    simp [dOps] at h
    obtain ⟨rfl, rfl⟩ := h
    exact hQ ι a w s (Stp.refl _ _ _ s.rel.dom)
  | cons i l ih =>
    intro ι T H a w hl s h hQ
    have hlt : k < ops.size := by
      have := congrArg List.length hl
      simp at this
      omega
    have hsp : List.range' k (ops.size - k) = k :: List.range' (k + 1) (ops.size - (k + 1)) := by
      rw [show ops.size - k = (ops.size - (k + 1)) + 1 by omega, List.range'_succ]
    rw [hsp] at hl
    injection hl with hi hl
    subst hi
    have hd : ops.toList.drop i = ops[i] :: ops.toList.drop (i + 1) := by
      rw [List.drop_eq_getElem_cons (by simpa using hlt)]
      simp
    rw [hd] at h
    simp only [dOps, Option.bind_eq_some_iff] at h
    obtain ⟨⟨v, H1⟩, h1, h2⟩ := h
    rw [wpOps_cons]
    refine step_sound hc (o := ops[i]) (by simp [hlt]) s.rel s.tmps (fun _ => ⟨s.cl, s.ad⟩) h1 ?_
    intro ι' v' w' hv hr hs hdst
    exact ih (i + 1) hl (s.next hv hr hs hdst (step_ad hca s.cl s.ad h1)) h2 fun ι'' a'' w'' st s' => hQ ι'' a'' w'' st (hs.trans s')

def toExit : DExit → Exit
  | .normal => .normal
  | .exit id => .exit id
  | .ret => .ret

/-- What a piece of the abstract machine gives of the model's. -/
def PieceOK (P : Program) (N : Nat) (c : Code) (piece : Env → AHeap → DRes) : Prop :=
  ∀ (B : Nat) (ι : Emb) (T : Env) (H : AHeap) (a : Act) (w : World) (x : DExit) (T' : Env) (H' : AHeap) (Q : Exit → Act → World → Prop),
    St P B N ι T H a w → piece T H = some (x, T', H') → (∀ ι' a' w', St P B N ι' T' H' a' w' → Stp ι H w ι' H' w' → Q (toExit x) a' w') → c.wp P Q a w

theorem St.clr {N : Nat} {T : Env} {a : Act} (s : St P B N ι T H a w) (keep : List Nat) : St P B N ι (clr keep T) H a w := ⟨s.rel, s.tmps.clr keep, s.defers, s.cl, s.ad.clr keep⟩

theorem loop_sound {N : Nat} {c : Code} {body : Env → AHeap → DRes} (hb : PieceOK P N c body) (keep : List Nat) : ∀ (m : Nat) {B : Nat} {ι : Emb} {T : Env} {H : AHeap} {a : Act} {w : World} {x : DExit} {T' : Env} {H' : AHeap} {Q : Exit → Act → World → Prop},
    St P B N ι T H a w → dLoop body keep m T H = some (x, T', H') → (∀ ι' a' w', St P B N ι' T' H' a' w' → Stp ι H w ι' H' w' → Q (toExit x) a' w') → Code.rounds P c Q m a w
  | 0, _, _, _, _, _, _, _, _, _, _, _, h, _ => by simp [dLoop] at h
  | m + 1, B, ι, T, H, a, w, x, T', H', Q, s, h, hQ => by
    simp only [dLoop, Option.bind_eq_some_iff] at h
    obtain ⟨⟨x1, T1, H1⟩, h1, h2⟩ := h
    rw [rounds_succ]
    refine hb _ _ _ _ _ _ _ _ _ _ (s.clr keep) h1 ?_
    intro ι' a' w' st hs
    cases x1 with
    | normal =>
      exact loop_sound hb keep m st h2 fun ι'' a'' w'' st' hs' => hQ ι'' a'' w'' st' (hs.trans hs')
    | exit id =>
      simp at h2
      obtain ⟨rfl, rfl, rfl⟩ := h2
      exact hQ ι' a' w' st hs
    | ret =>
      simp at h2
      obtain ⟨rfl, rfl, rfl⟩ := h2
      exact hQ ι' a' w' st hs

theorem code_sound {N n : Nat} {call : CallF} (hc : CallOK P call) (hca : CallAd call) (hm : P.follows .mixedOrders = true) : ∀ (c : DCode), PieceOK P N (erase c) (dCode P N call n c)
  | .skip => by
    intro B ι T H a w x T' H' Q s h hQ
    simp [dCode] at h
    obtain ⟨rfl, rfl, rfl⟩ := h
    exact wp_skip (hQ ι a w s (Stp.refl _ _ _ s.rel.dom))
  | .region id ops draw => by
    intro B ι T H a w x T' H' Q s h hQ
    simp only [dCode, Option.map_eq_some_iff] at h
    obtain ⟨⟨T1, H1⟩, h1, h2⟩ := h
    cases h2
    cases draw with
    | false =>
      refine wp_region ?_
      exact ops_sound hc hca 0 _ (by simp [List.range_eq_range']) s (by simpa using h1) hQ
    | true => exact draw_sound hc hca hm s (by simpa using h1) hQ
  | .seq p q => by
    intro B ι T H a w x T' H' Q s h hQ
    simp only [dCode, Option.bind_eq_some_iff] at h
    obtain ⟨⟨x1, T1, H1⟩, h1, h2⟩ := h
    refine wp_seq (code_sound hc hca hm p _ _ _ _ _ _ _ _ _ _ s h1 ?_)
    intro ι' a' w' st hs
    cases x1 with
    | normal => exact code_sound hc hca hm q _ _ _ _ _ _ _ _ _ _ st h2 fun ι'' a'' w'' st' hs' => hQ ι'' a'' w'' st' (hs.trans hs')
    | exit id =>
      simp at h2
      obtain ⟨rfl, rfl, rfl⟩ := h2
      exact hQ ι' a' w' st hs
    | ret =>
      simp at h2
      obtain ⟨rfl, rfl, rfl⟩ := h2
      exact hQ ι' a' w' st hs
  | .cond keep c p q => by
    intro B ι T H a w x T' H' Q s h hQ
    simp only [dCode] at h
    split at h
    · rename_i b hb
      have hr := s.tmps.ev c
      rw [hb] at hr
      have hc' : a.eval c = .bool b := by
        generalize hq : a.eval c = q' at hr
        cases hr
        rfl
      simp only [Option.map_eq_some_iff] at h
      obtain ⟨⟨x1, T1, H1⟩, h1, h2⟩ := h
      have key : ∀ ι' a' w', St P B N ι' T1 H1 a' w' → Stp ι H w ι' H1 w' → Q (toExit x1) a' w' := by
        intro ι' a' w' st hs
        cases x1 with
        | normal => cases h2; exact hQ ι' a' w' (st.clr keep) hs
        | exit id => cases h2; exact hQ ι' a' w' st hs
        | ret => cases h2; exact hQ ι' a' w' st hs
      cases b with
      | true => exact wp_cond_true hc' (code_sound hc hca hm p _ _ _ _ _ _ _ _ _ _ s (by simpa using h1) key)
      | false => exact wp_cond_false hc' (code_sound hc hca hm q _ _ _ _ _ _ _ _ _ _ s (by simpa using h1) key)
    · simp at h
  | .block keep id p => by
    intro B ι T H a w x T' H' Q s h hQ
    simp only [dCode, Option.map_eq_some_iff] at h
    obtain ⟨⟨x1, T1, H1⟩, h1, h2⟩ := h
    refine wp_block (code_sound hc hca hm p _ _ _ _ _ _ _ _ _ _ s h1 ?_)
    intro ι' a' w' st hs
    cases x1 with
    | normal => cases h2; exact hQ ι' a' w' (st.clr keep) hs
    | exit j =>
      simp only at h2
      simp only [toExit, Exit.inBlock]
      by_cases hj : j = id
      · rw [if_pos hj] at h2 ⊢
        cases h2
        exact hQ ι' a' w' (st.clr keep) hs
      · rw [if_neg hj] at h2 ⊢
        cases h2
        exact hQ ι' a' w' st hs
    | ret => cases h2; exact hQ ι' a' w' st hs
  | .loop keep p => by
    intro B ι T H a w x T' H' Q s h hQ
    simp only [dCode] at h
    exact wp_loop_rounds n (loop_sound (code_sound hc hca hm p) keep n s h hQ)
  | .exit id => by
    intro B ι T H a w x T' H' Q s h hQ
    simp [dCode] at h
    obtain ⟨rfl, rfl, rfl⟩ := h
    exact wp_exit (hQ ι a w s (Stp.refl _ _ _ s.rel.dom))
  | .ret keep => by
    intro B ι T H a w x T' H' Q s h hQ
    simp [dCode] at h
    obtain ⟨rfl, rfl, rfl⟩ := h
    exact wp_ret (hQ ι a w (s.clr keep) (Stp.refl _ _ _ s.rel.dom))
  | .bad c => by
    intro B ι T H a w x T' H' Q s h hQ
    simp [dCode] at h

def resSem (tmps : Array Value) : ResultVar → Sem Value
  | .tmp t => pure (tmps.getD t undef)
  | .cell a t => do loadVar t (← asAddr (tmps.getD a undef))

theorem resVals_sound {N : Nat} {T : Env} {a : Act} (s : St P B N ι T H a w) : ∀ {rs : List ResultVar} {l : List Value}, resVals P H T rs = some l →
    ∃ l', RVs ι l l' ∧ (rs.mapM (resSem a.tmps)).run P w = .ok l' w
  | [], l, h => by simp [resVals] at h; subst h; exact ⟨[], .nil, rfl⟩
  | r :: rs, l, h => by
    simp only [resVals, Option.bind_eq_some_iff, Option.map_eq_some_iff] at h
    obtain ⟨v, hv, l1, hl1, rfl⟩ := h
    obtain ⟨l', h1, h2⟩ := resVals_sound s hl1
    cases r with
    | tmp t =>
      simp [resVal] at hv
      subst hv
      exact ⟨_ :: l', .cons (s.tmps.2 t) h1, by simp [List.mapM_cons, h2, resSem]⟩
    | cell b t =>
      simp only [resVal] at hv
      obtain ⟨v', h3, h4⟩ := xload_sound s.rel (s.tmps.2 b) hv
      refine ⟨v' :: l', .cons h4 h1, ?_⟩
      have hp : ∃ ad, a.tmps.getD b undef = .pointer (some ad) := by
        have hr := s.tmps.2 b
        generalize a.tmps.getD b undef = q at hr h3
        unfold xload at hv
        split at hv
        · unfold ldN at hv
          split at hv
          · rename_i hg
            rw [hg] at hr
            cases hr
            exact ⟨_, rfl⟩
          · simp at hv
        · unfold ld1 at hv
          split at hv
          · rename_i hg
            rw [hg] at hr
            cases hr
            exact ⟨_, rfl⟩
          · simp at hv
        · simp at hv
      obtain ⟨ad, had⟩ := hp
      rw [had] at h3
      have h5 : (loadVar t ad).run P w = .ok v' w := by simpa [Instr.loadAt, Instr.sureAddr] using h3
      simp only [List.mapM_cons, resSem, Sem.run_bind, had, asAddr, Sem.run_pure, Result.andThen_ok, h5, h2]

theorem resultOf_sound {l l' : List Value} (h : RVs ι l l') : RV ι (resultOf l) (if h : l'.toArray.size = 1 then l'.toArray[0] else .tuple l'.toArray) := by
  cases h with
  | nil => exact gr_rel (n := 1) (by simp [gr, resultOf])
  | cons h1 t =>
    cases t with
    | nil => simpa [resultOf] using h1
    | cons h2 t =>
      have := (RVs.cons h1 (RVs.cons h2 t)).tup
      simpa [resultOf] using this

theorem args_sound {args args' : List Value} (h : RVs ι args args') (N : Nat) : RT ι N (argEnv 0 args) (args'.toArray ++ Array.replicate (N - args'.toArray.size) undef) := by
  refine ⟨by simp; omega, fun t => ?_⟩
  rw [get_argEnv]
  split
  · rename_i ht
    have hlt : t < args.length := by omega
    obtain ⟨v', hv', hr⟩ := h.get (List.getElem?_eq_getElem hlt)
    have hlt' : t < args'.length := (List.getElem?_eq_some_iff.1 hv').1
    simp only [Nat.sub_zero]
    rw [List.getD_eq_getElem?_getD, List.getElem?_eq_getElem hlt]
    simp [Array.getElem?_append, hlt', hr]
    rw [List.getElem?_eq_getElem hlt'] at hv'
    cases hv'
    exact hr
  · exact .unk _

theorem body_sound {hints : Hints} {call : CallF} (hc : CallOK P call) (hca : CallAd call) (hm : P.follows .mixedOrders = true) (n : Nat) : CallOK P (dBody P hints call n) := by
  intro f args H v H' h hcl had B ι w args' r ha
  unfold dBody at h
  split at h
  · rename_i fn hf
    split at h
    · rename_i c hb
      simp only [Option.bind_eq_some_iff] at h
      obtain ⟨⟨x, T1, H1⟩, h1, h2⟩ := h
      refine calls_of_wp hf hb ?_
      have s : St P B fn.ntmps ι (argEnv 0 args) H { tmps := args'.toArray ++ Array.replicate (fn.ntmps - args'.toArray.size) undef, defers := [] } w := ⟨r, args_sound ha _, rfl, hcl, AT.args had⟩
      have := code_sound (n := n) hc hca hm (note c (hints f)).1 _ _ _ _ _ _ _ _ _ (bodyPost P fn fun e w' => ∃ v' ι', e = .returned v' ∧ RV ι' v v' ∧ Rel P B ι' H' w' ∧ Stp ι H w ι' H' w') s h1 ?_
      · rwa [erase_note] at this
      · intro ι' a' w' st hs
        have fin : ∀ l, resVals P H1 T1 fn.results.toList = some l → v = resultOf l → H' = H1 → a'.defers = [] ∧ ∃ u, (results fn a'.tmps).run P w' = .ok u w' ∧ ∃ v' ι', Ending.returned u = .returned v' ∧ RV ι' v v' ∧ Rel P B ι' H' w' ∧ Stp ι H w ι' H' w' := by
          intro l hl hv hH
          subst hv
          subst hH
          obtain ⟨l', h3, h4⟩ := resVals_sound st hl
          refine ⟨st.defers, _, ?_, _, ι', rfl, resultOf_sound h3, st.rel, hs⟩
          have he : results fn a'.tmps = (do let vs ← fn.results.mapM (resSem a'.tmps); pure (if h : vs.size = 1 then vs[0] else .tuple vs)) := by
            unfold results
            congr 1
          rw [he, Array.mapM_eq_mapM_toList]
          simp only [Sem.run_bind, Sem.run_map]
          rw [h4]
          rfl
        cases x with
        | normal =>
          simp only [Option.map_eq_some_iff] at h2
          obtain ⟨l, hl, h2⟩ := h2
          cases h2
          exact fin l hl rfl rfl
        | exit id => simp at h2
        | ret =>
          simp only [Option.map_eq_some_iff] at h2
          obtain ⟨l, hl, h2⟩ := h2
          cases h2
          exact fin l hl rfl rfl
    · simp at h
  · simp at h

/-- The functions that are taken as a whole are as the model's. -/
def PrimsOK (P : Program) (prims : Prims) : Prop := ∀ f p, prims f = some p →
  (CallAd fun _ args H => p args H) ∧ CallOK P fun g args H => if g = f then p args H else none

/-- THE ENGINE IS SOUND. -/
theorem call_sound {prims : Prims} {hints : Hints} (hp : PrimsOK P prims) (hm : P.follows .mixedOrders = true) : ∀ n, CallOK P (dCall P prims hints n)
  | 0 => by intro f args H v H' h; simp [dCall] at h
  | n + 1 => by
    intro f args H v H' h hcl had B ι w args' r ha
    simp only [dCall] at h
    split at h
    · rename_i p hpf
      exact (hp f p hpf).2 f args H v H' (by simpa using h) hcl had B ι w args' r ha
    · simp only [Option.map_eq_some_iff] at h
      obtain ⟨⟨v0, H0⟩, h1, h2⟩ := h
      refine (body_sound (call_sound hp hm n) (call_ad (fun f p h => (hp f p h).1) n) hm n f args H v0 H0 h1 hcl had B ι w args' r ha).mono ?_
      rintro e w' ⟨v', ι', rfl, hv, hr, hs⟩
      unfold tidy at h2
      split at h2
      · rename_i hg
        simp only [Bool.and_eq_true] at hg
        cases h2
        obtain ⟨g1, g2, g3⟩ := tidy_sound hcl r hg.2 hg.1 hv hr hs
        exact ⟨v', ι, rfl, g1, g2, g3⟩
      · cases h2
        exact ⟨v', ι', rfl, hv, hr, hs⟩

end Go.Proofs.Ytlagijfkkpbbnaa.Eng
