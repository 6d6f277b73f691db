/-
  The engine, part 14: each operation of a region that draws its order, and the region.
  Conditions: none. By an AI agent.
-/
import Derived.Test.YtlagijfkkpbbnaaEng13
namespace Go.Proofs.Ytlagijfkkpbbnaa.Eng
open Go

variable {P : Program} {B : Nat} {N : Nat} {call : CallF} {ops : Array Oper} {F : Nat → Env × AHeap} {vs : Nat → Value} {ι0 ι : Emb} {w0 w : World} {S : Nat → Bool} {e : Nat} {a : Act}

theorem Inv.move (W : Walk P N call ops F vs) (I : Inv P B N ops F vs ι0 w0 S e ι a w) {e' : Nat} (h1 : e ≤ e') (h2 : e' ≤ ops.size) (h3 : ∀ k o, e ≤ k → k < e' → ops[k]? = some o → isEff o.op = false) :
    Inv P B N ops F vs ι0 w0 S e' ι a w := by
  have hc : Gat F ops.size (F 0).2.clk e' = Gat F ops.size (F 0).2.clk e := by
    unfold Gat
    congr 1
    funext b
    exact (W.con_move b e' h1 h2 h3).symm
  refine { I with le := h2, ev := fun k o ho he => ?_, rel := by rw [hc]; exact I.rel, stp := by rw [hc]; exact I.stp }
  rw [I.ev k o ho he]
  constructor
  · intro h; omega
  · intro h
    rcases Nat.lt_or_ge k e with hk | hk
    · exact hk
    · rw [h3 k o hk h ho] at he; cases he

/-- What turns memory comes in the order of the text. -/
theorem Inv.atEff (W : Walk P N call ops F vs) (I : Inv P B N ops F vs ι0 w0 S e ι a w) {j : Nat} {oj : Oper} (hj : ops[j]? = some oj) (hS : S j = false)
    (hr : ∀ e ∈ oj.after, Region.binds .any e = true → S e.on = true) (he : isEff oj.op = true) : Inv P B N ops F vs ι0 w0 S j ι a w := by
  have hlt : j < ops.size := (Array.getElem?_eq_some_iff.1 hj).1
  have hej : e ≤ j := by
    rcases Nat.lt_or_ge j e with h | h
    · have := (I.ev j oj hj he).2 h
      rw [hS] at this; cases this
    · exact h
  refine I.move W hej (by omega) fun k o h1 h2 ho => ?_
  cases hq : isEff o.op with
  | false => rfl
  | true =>
    exfalso
    have hb : bit (masks ops.toList []) k j = true := by
      rcases Classical.em (apart (masks ops.toList []) k j = true) with h | h
      · exact (W.ord.eff k j o oj ho hj (by omega) h hq he).elim
      · rcases not_apart h with h | h
        · exact h
        · have := W.ord.lt h; omega
    have hk := (W.ord.pred I.dn j (fun o' ho' => by rw [hj] at ho'; cases ho'; exact hr) hb).1
    have := (I.ev k o ho hq).1 hk
    omega

theorem low_up {n : Nat} : ∀ b L, low n ι b = some L → ι b = some L := fun _ _ h => (low_some.1 h).2

/-- The state in the order of the text is there, too. -/
theorem Inv.relLow (W : Walk P N call ops F vs) {j : Nat} (I : Inv P B N ops F vs ι0 w0 S j ι a w) : Rel P B (low (F j).2.n ι) (F j).2 w := by
  have hcl := (W.ok j I.le).cl
  have hcon : ∀ b, b < (F j).2.n → (Gat F ops.size (F 0).2.clk j).f b = (F j).2.f b := fun b hb => con_at hb
  refine ⟨fun b L h => ?_, fun b L h => ⟨(low_some.1 h).1, (I.rel.lt b L (low_some.1 h).2).2⟩, fun b c L M h1 h2 hne ho ha => ?_, I.rel.base, hcl.ver⟩
  · obtain ⟨hb, h⟩ := low_some.1 h
    have := I.rel.blk b L h
    rw [hcon b hb] at this
    exact this.lowCl hcl
  · obtain ⟨hb, h1⟩ := low_some.1 h1
    obtain ⟨hc, h2⟩ := low_some.1 h2
    exact I.rel.inj b c L M h1 h2 hne (by rw [hcon b hb]; exact ho) (by rw [hcon c hc]; exact ha)

theorem Inv.eff (W : Walk P N call ops F vs) {j : Nat} (I : Inv P B N ops F vs ι0 w0 S j ι a w) {oj : Oper} (hj : ops[j]? = some oj) (hS : S j = false)
    (hr : ∀ e ∈ oj.after, Region.binds .any e = true → S e.on = true) {ι1 : Emb} {v' : Value} {w' : World} (hv : RV ι1 (vs j) v') (r : Rel P B ι1 (F (j + 1)).2 w') (s : Stp (low (F j).2.n ι) (F j).2 w ι1 (F (j + 1)).2 w')
    (hd : dstOk N oj.dst = true) : ∃ ι', Inv P B N ops F vs ι0 w0 (add S j) (j + 1) ι' (a.put oj.dst v') w' := by
  have hlt : j < ops.size := (Array.getElem?_eq_some_iff.1 hj).1
  have hnj : (F j).2.n ≤ (F (j + 1)).2.n := (W.vo j hlt).n
  have hn0 : (F 0).2.n ≤ (F j).2.n := W.n_mono (by omega) (by omega)
  have hnz : (F (j + 1)).2.n ≤ (F ops.size).2.n := W.n_mono (by omega) (Nat.le_refl _)
  have hroom : ∀ b, (F j).2.n ≤ b → b < (F (j + 1)).2.n → ι b = none := fun b h1 h2 => I.room W hlt hS h1 h2
  let ι' : Emb := fun b => if (F j).2.n ≤ b ∧ b < (F (j + 1)).2.n then ι1 b else ι b
  have hin : ∀ b, (F j).2.n ≤ b → b < (F (j + 1)).2.n → ι' b = ι1 b := fun b h1 h2 => by simp [ι', h1, h2]
  have hlo : ∀ b, b < (F j).2.n → ι' b = ι b := fun b h => by simp [ι', Nat.not_le.2 h]
  have hhi : ∀ b, (F (j + 1)).2.n ≤ b → ι' b = ι b := fun b h => by simp [ι', Nat.not_lt.2 h]
  have hι1lo : ∀ b, b < (F j).2.n → ι1 b = ι b := fun b h => by rw [s.ext b h]; simp [low, h]
  have hup : ∀ b L, ι b = some L → ι' b = some L := by
    intro b L h
    by_cases h1 : (F j).2.n ≤ b
    · by_cases h2 : b < (F (j + 1)).2.n
      · rw [hroom b h1 h2] at h; cases h
      · rw [hhi b (Nat.le_of_not_lt h2)]; exact h
    · rw [hlo b (Nat.lt_of_not_le h1)]; exact h
  have hup1 : ∀ b L, ι1 b = some L → ι' b = some L := by
    intro b L h
    have hb := (r.lt b L h).1
    by_cases h1 : (F j).2.n ≤ b
    · rw [hin b h1 hb]; exact h
    · rw [hlo b (Nat.lt_of_not_le h1), ← hι1lo b (Nat.lt_of_not_le h1)]; exact h
  have hdown : ∀ b L, b < (F (j + 1)).2.n → ι' b = some L → ι1 b = some L := by
    intro b L h1 h
    by_cases h2 : (F j).2.n ≤ b
    · rw [← hin b h2 h1]; exact h
    · rw [hι1lo b (Nat.lt_of_not_le h2), ← hlo b (Nat.lt_of_not_le h2)]; exact h
  let G := Gat F ops.size (F 0).2.clk j
  let G' := Gat F ops.size (F 0).2.clk (j + 1)
  have hcon : ∀ b, b < (F j).2.n → G.f b = (F j).2.f b := fun b hb => con_at hb
  have hcon' : ∀ b, b < (F (j + 1)).2.n → G'.f b = (F (j + 1)).2.f b := fun b hb => con_at hb
  have hsame : ∀ b, (F (j + 1)).2.n ≤ b → G'.f b = G.f b := fun b hb => (con_skip hlt (by omega)).symm
  -- an old block that the step may have turned does not lie where one beyond lies
  have hfar : ∀ b c L M, low (F j).2.n ι b = some L → owned ((F j).2.f b) = true → (F (j + 1)).2.n ≤ c → ι c = some M → alive (G.f c) = true → L.cb ≠ M.cb := by
    intro b c L M h1 h2 h3 h4 h5
    obtain ⟨hb, h1⟩ := low_some.1 h1
    exact I.rel.inj b c L M h1 h4 (by omega) (by rw [hcon b hb]; exact h2) h5
  -- a block of the step and one beyond
  have hcross : ∀ b c L M, b < (F (j + 1)).2.n → (F (j + 1)).2.n ≤ c → ι' b = some L → ι' c = some M → (owned (G'.f b) = true ∧ alive (G'.f c) = true) ∨ (alive (G'.f b) = true ∧ owned (G'.f c) = true) → L.cb ≠ M.cb := by
    intro b c L M hb hc h1 h2 ho
    have h2 : ι c = some M := by rw [← hhi c hc]; exact h2
    have hac : alive (G.f c) = true := by
      rw [← hsame c hc]
      rcases ho with h | h
      · exact h.2
      · exact alive_of_owned h.2
    have h1' := hdown b L hb h1
    by_cases hbn : b < (F j).2.n
    · have h1'' : ι b = some L := by rw [← hι1lo b hbn]; exact h1'
      rcases ho with ⟨h, _⟩ | ⟨h, h'⟩
      · rw [hcon' b hb] at h
        exact hfar b c L M (low_some.2 ⟨hbn, h1''⟩) (s.own b L hbn (low_some.2 ⟨hbn, h1''⟩) h) hc h2 hac
      · rw [hcon' b hb] at h
        have := s.vo.live b hbn h
        exact fun he => I.rel.inj c b M L h2 h1'' (by omega) (by rw [← hsame c hc]; exact h') (by rw [hcon b hbn]; exact this) he.symm
    · rcases s.new b L (Nat.le_of_not_lt hbn) h1' with h | ⟨b0, L0, hb0, hi, ho0, he⟩
      · have := (I.rel.lt c M h2).2; omega
      · rw [← he]; exact hfar b0 c L0 M hi ho0 hc h2 hac
  refine ⟨ι', I.next_dn hj hr, fun k hk => ?_, by omega, fun k o ho he => ?_, fun b L h => ?_, ⟨fun b L h => ?_, fun b L h => ?_, fun b c L M h1 h2 hne ho ha => ?_, ?_, fun b => Nat.lt_succ_self _⟩,
    ⟨fun b hb => ?_, ?_, Nat.le_trans I.stp.wn s.wn, s.os.trans I.stp.os, s.tape.trans I.stp.tape, s.output.trans I.stp.output, fun c hc h => ?_, fun b L hb h => ?_, fun b L hb hl ho => ?_, ⟨?_, Nat.le_succ _, fun b hb => .inr (Nat.le_refl _), fun b hb h => ?_⟩⟩, ?_,
    (I.tmps W hj hS hr hup (hv.mono hup1) hd).1, (I.tmps W hj hS hr hup (hv.mono hup1) hd).2, ?_⟩
  · by_cases hkj : k = j
    · omega
    · exact I.lt k (by simpa [add, hkj] using hk)
  · by_cases hkj : k = j
    · subst hkj; simp [add]
    · have := I.ev k o ho he
      simp only [add, show (k == j) = false by simpa using hkj, Bool.false_or]
      rw [this]
      omega
  · by_cases h1 : (F j).2.n ≤ b ∧ b < (F (j + 1)).2.n
    · exact .inr ⟨j, by simp [add], h1.1, h1.2⟩
    · have h : ι b = some L := by simpa [ι', h1] using h
      rcases I.dom b L h with h | ⟨k, hk, h⟩
      · exact .inl h
      · exact .inr ⟨k, by simp [add, hk], h⟩
  · by_cases hb : b < (F (j + 1)).2.n
    · have h2 := r.blk b L (hdown b L hb h)
      show RB P B ι' w' L (G'.f b)
      rw [hcon' b hb]
      exact h2.mono hup1
    · have hb := Nat.le_of_not_lt hb
      have h2 : ι b = some L := by rw [← hhi b hb]; exact h
      show RB P B ι' w' L (G'.f b)
      rw [hsame b hb]
      have h3 := I.rel.blk b L h2
      by_cases hal : alive (G.f b) = true
      · refine RB.mono hup (RB.keep h3 (s.fr L.cb (I.rel.lt b L h2).2 fun b0 L0 h4 h5 => hfar b0 b L0 L h4 h5 hb h2 hal))
      · cases hq : G.f b with
        | dead => trivial
        | _ => simp [hq, alive] at hal
  · by_cases hb : b < (F (j + 1)).2.n
    · have := r.lt b L (hdown b L hb h)
      exact ⟨Nat.lt_of_lt_of_le hb hnz, this.2⟩
    · have h2 : ι b = some L := by rw [← hhi b (Nat.le_of_not_lt hb)]; exact h
      have := I.rel.lt b L h2
      exact ⟨this.1, Nat.lt_of_lt_of_le this.2 s.wn⟩
  · change owned (G'.f b) = true at ho
    change alive (G'.f c) = true at ha
    by_cases hb : b < (F (j + 1)).2.n
    · by_cases hc : c < (F (j + 1)).2.n
      · exact r.inj b c L M (hdown b L hb h1) (hdown c M hc h2) hne (by rw [← hcon' b hb]; exact ho) (by rw [← hcon' c hc]; exact ha)
      · exact hcross b c L M hb (Nat.le_of_not_lt hc) h1 h2 (.inl ⟨ho, ha⟩)
    · by_cases hc : c < (F (j + 1)).2.n
      · exact fun he => hcross c b M L hc (Nat.le_of_not_lt hb) h2 h1 (.inr ⟨ha, ho⟩) he.symm
      · have hb := Nat.le_of_not_lt hb
        have hc := Nat.le_of_not_lt hc
        exact I.rel.inj b c L M (by rw [← hhi b hb]; exact h1) (by rw [← hhi c hc]; exact h2) hne (by change owned (G.f b) = true; rw [← hsame b hb]; exact ho) (by change alive (G.f c) = true; rw [← hsame c hc]; exact ha)
  · exact Nat.le_trans I.rel.base s.wn
  · rw [hlo b (by omega)]; exact I.stp.ext b hb
  · exact I.stp.hn
  · rw [s.fr c (Nat.lt_of_lt_of_le hc I.stp.wn) ?_, I.stp.fr c hc h]
    intro b L hb ho
    obtain ⟨hbn, hb⟩ := low_some.1 hb
    by_cases hb0 : b < (F 0).2.n
    · have h0 : ι0 b = some L := by rw [← I.stp.ext b hb0]; exact hb
      exact h b L h0 (I.stp.own b L hb0 h0 (by change owned (G.f b) = true; rw [hcon b hbn]; exact ho))
    · rcases I.stp.new b L (Nat.le_of_not_lt hb0) hb with h1 | ⟨b0, L0, hb1, hi, ho0, he⟩
      · omega
      · rw [← he]; exact h b0 L0 hi ho0
  · have fromOld : ι b = some L → w0.heap.size ≤ L.cb ∨ ∃ b0 L0, b0 < (F 0).2.n ∧ ι0 b0 = some L0 ∧ owned ((F 0).2.f b0) = true ∧ L0.cb = L.cb := fun h => I.stp.new b L hb h
    by_cases h1 : (F j).2.n ≤ b ∧ b < (F (j + 1)).2.n
    · have h2 : ι1 b = some L := by rw [← hin b h1.1 h1.2]; exact h
      rcases s.new b L h1.1 h2 with h3 | ⟨b1, L1, hb1, hi, ho1, he⟩
      · exact .inl (Nat.le_trans I.stp.wn h3)
      · obtain ⟨hb1n, hi⟩ := low_some.1 hi
        by_cases hb0 : b1 < (F 0).2.n
        · have h0 : ι0 b1 = some L1 := by rw [← I.stp.ext b1 hb0]; exact hi
          exact .inr ⟨b1, L1, hb0, h0, I.stp.own b1 L1 hb0 h0 (by change owned (G.f b1) = true; rw [hcon b1 hb1n]; exact ho1), he⟩
        · rcases I.stp.new b1 L1 (Nat.le_of_not_lt hb0) hi with h4 | ⟨b0, L0, g1, g2, g3, g4⟩
          · exact .inl (by omega)
          · exact .inr ⟨b0, L0, g1, g2, g3, g4.trans he⟩
    · exact fromOld (by simpa [ι', h1] using h)
  · have hbn : b < (F j).2.n := by omega
    have hb1 : b < (F (j + 1)).2.n := by omega
    have hi : ι b = some L := by rw [I.stp.ext b hb]; exact hl
    have h2 : owned ((F (j + 1)).2.f b) = true := by rw [← hcon' b hb1]; exact ho
    have h3 := s.own b L hbn (low_some.2 ⟨hbn, hi⟩) h2
    exact I.stp.own b L hb hl (by change owned (G.f b) = true; rw [hcon b hbn]; exact h3)
  · exact I.stp.hn
  · refine (W.ok (j + 1) (by omega)).vo.live b hb ?_
    rw [← hcon' b (by omega)]
    exact h
  · cases oj.dst with
    | none => exact I.tN
    | some d => simpa [Act.put] using I.tN
  · cases oj.dst <;> exact I.df

theorem fresh_as {f : Nat → Value} (hf : Fresh f) {ι1 ι' : Emb} {m n : Nat} {v' : Value} (h : RV ι1 (f m) v') (he : ι' n = ι1 m) : RV ι' (f n) v' := by
  rcases hf with rfl | ⟨l, c, rfl⟩
  · simp only at h ⊢
    cases h with
    | ptr h => exact .ptr (by rw [he]; exact h)
  · simp only at h ⊢
    cases h with
    | sle h hn => exact .sle (by rw [he]; exact h) hn
    | sli h hc hn ht => exact .sli (by rw [he]; exact h) hc hn ht
    | sl0 hk => exact .sl0 hk

/-- An operation that turns no memory finds its block as in the order of the text. -/
theorem Inv.same (W : Walk P N call ops F vs) (I : Inv P B N ops F vs ι0 w0 S e ι a w) {j : Nat} {oj : Oper} (hj : ops[j]? = some oj) (hS : S j = false)
    (hr : ∀ e ∈ oj.after, Region.binds .any e = true → S e.on = true) (he : isEff oj.op = false) {b : Nat} (hb : b < (F j).2.n)
    (hp : ∀ i oi, ops[i]? = some oi → isEff oi.op = true → apart (masks ops.toList []) i j = true → (F i).2.n ≤ b ∨ (F (i + 1)).2.ver b = (F i).2.ver b) : con F (ops.size - e) e b = (F j).2.f b := by
  have hlt : j < ops.size := (Array.getElem?_eq_some_iff.1 hj).1
  have hstill : ∀ i, i < ops.size → (∀ oi, ops[i]? = some oi → isEff oi.op = true → apart (masks ops.toList []) i j = true) → b < (F i).2.n → (F (i + 1)).2.f b = (F i).2.f b := by
    intro i hi hap hbi
    have ho : ops[i]? = some ops[i] := by simp [hi]
    cases hq : isEff ops[i].op with
    | false => exact W.quiet_f ho hq hbi
    | true =>
      have hv : (F (i + 1)).2.ver b = (F i).2.ver b := by
        rcases hp i _ ho hq (hap _ ho hq) with h | h
        · omega
        · exact h
      rcases (W.vo i hi).old b hbi with h | h
      · exact h.2
      · have := (W.ok i (by omega)).cl.ver b
        omega
  rcases Nat.lt_or_ge j e with h | h
  · have hn : (F j).2.n ≤ (F e).2.n := W.n_mono (by omega) I.le
    rw [con_at (by omega)]
    refine W.chain hb e (by omega) I.le fun i h1 h2 => ?_
    have hie := I.le
    refine hstill i (by omega) (fun oi ho hq => ?_) (by have := W.n_mono (j := j) (k := i) h1 (by omega); omega)
    have hij : i ≠ j := by rintro rfl; rw [hj] at ho; cases ho; rw [he] at hq; cases hq
    have hSi := (I.ev i oi ho hq).2 h2
    rcases Classical.em (apart (masks ops.toList []) i j = true) with h3 | h3
    · exact h3
    · exfalso
      rcases not_apart h3 with h3 | h3
      · have := W.ord.lt h3; omega
      · have := (W.ord.pred I.dn i (fun o' ho' => by rw [ho] at ho'; cases ho'; exact I.dn i oi ho hSi) h3).1
        rw [hS] at this; cases this
  · refine W.ahead (by omega) hb (j - e) e (by omega) fun i h1 h2 hbi => ?_
    refine hstill i (by omega) (fun oi ho hq => ?_) hbi
    rcases Classical.em (apart (masks ops.toList []) i j = true) with h3 | h3
    · exact h3
    · exfalso
      rcases not_apart h3 with h3 | h3
      · have h4 := (W.ord.pred I.dn j (fun o' ho' => by rw [hj] at ho'; cases ho'; exact hr) h3).1
        have := (I.ev i oi ho hq).1 h4
        omega
      · have := W.ord.lt h3; omega

theorem Inv.lazy (W : Walk P N call ops F vs) (I : Inv P B N ops F vs ι0 w0 S e ι a w) {j : Nat} {oj : Oper} (hj : ops[j]? = some oj) (hS : S j = false)
    (hr : ∀ e ∈ oj.after, Region.binds .any e = true → S e.on = true) (he : isEff oj.op = false) (hn : (F (j + 1)).2.n = (F j).2.n) {ι1 : Emb} {v' : Value} {w' : World} (hv : RV ι1 (vs j) v')
    (r : Rel P B ι1 (Gat F ops.size (F 0).2.clk e) w') (s : Stp ι (Gat F ops.size (F 0).2.clk e) w ι1 (Gat F ops.size (F 0).2.clk e) w')
    (hd : dstOk N oj.dst = true) : ∃ ι', Inv P B N ops F vs ι0 w0 (add S j) e ι' (a.put oj.dst v') w' := by
  have hι : ι1 = ι := by
    funext b
    by_cases hb : b < (F ops.size).2.n
    · exact s.ext b hb
    · cases h1 : ι1 b with
      | some L => exact absurd (r.lt b L h1).1 hb
      | none =>
        cases h2 : ι b with
        | some L => exact absurd (I.rel.lt b L h2).1 hb
        | none => rfl
  subst hι
  have hlt : j < ops.size := (Array.getElem?_eq_some_iff.1 hj).1
  refine ⟨ι1, I.next_dn hj hr, fun k hk => ?_, I.le, fun k o ho hek => ?_, fun b L h => ?_, r, I.stp.trans s, ?_,
    (I.tmps W hj hS hr (fun _ _ h => h) hv hd).1, (I.tmps W hj hS hr (fun _ _ h => h) hv hd).2, ?_⟩
  · by_cases hkj : k = j
    · omega
    · exact I.lt k (by simpa [add, hkj] using hk)
  · by_cases hkj : k = j
    · subst hkj; rw [hj] at ho; cases ho; rw [he] at hek; cases hek
    · simpa [add, hkj] using I.ev k o ho hek
  · rcases I.dom b L h with h | ⟨k, hk, h⟩
    · exact .inl h
    · exact .inr ⟨k, by simp [add, hk], h⟩
  · cases oj.dst with
    | none => exact I.tN
    | some d => simpa [Act.put] using I.tN
  · cases oj.dst <;> exact I.df

theorem Inv.make (W : Walk P N call ops F vs) (I : Inv P B N ops F vs ι0 w0 S e ι a w) {j : Nat} {oj : Oper} (hj : ops[j]? = some oj) (hS : S j = false)
    (hr : ∀ e ∈ oj.after, Region.binds .any e = true → S e.on = true) (he : isEff oj.op = false) {k0 : Blk} {f : Nat → Value} (hf : Fresh f) (hH : (F (j + 1)).2 = (F j).2.push k0) (hvj : vs j = f (F j).2.n)
    (hk0 : con F (ops.size - e) e (F j).2.n = k0) {ι1 : Emb} {v' : Value} {w' : World} (hv : RV ι1 (f (F ops.size).2.n) v')
    (r : Rel P B ι1 ((Gat F ops.size (F 0).2.clk e).push k0) w') (s : Stp ι (Gat F ops.size (F 0).2.clk e) w ι1 ((Gat F ops.size (F 0).2.clk e).push k0) w')
    (hd : dstOk N oj.dst = true) : ∃ ι', Inv P B N ops F vs ι0 w0 (add S j) e ι' (a.put oj.dst v') w' := by
  have hlt : j < ops.size := (Array.getElem?_eq_some_iff.1 hj).1
  have hn : (F (j + 1)).2.n = (F j).2.n + 1 := by rw [hH]; rfl
  have hn0 : (F 0).2.n ≤ (F j).2.n := W.n_mono (by omega) (by omega)
  have hnz : (F (j + 1)).2.n ≤ (F ops.size).2.n := W.n_mono (by omega) (Nat.le_refl _)
  have hnone : ι (F j).2.n = none := I.room W hlt hS (Nat.le_refl _) (by omega)
  generalize hz : (F ops.size).2.n = z at *
  generalize hnjq : (F j).2.n = nj at *
  let G := Gat F ops.size (F 0).2.clk e
  have hGn : G.n = z := by simp [G, Gat, hz]
  have hclG : Cl G := W.clG I.le
  have hold : ∀ b, b < z → ι1 b = ι b := fun b hb => s.ext b (by change b < G.n; omega)
  have hιz : ∀ b L, ι b = some L → b < z := fun b L h => by have := (I.rel.lt b L h).1; change b < G.n at this; omega
  have hι1z : ∀ b L, ι1 b = some L → b < z + 1 := fun b L h => by
    have := (r.lt b L h).1
    simp only [AHeap.push_n] at this
    change b < G.n + 1 at this
    omega
  let ι' : Emb := fun b => if b = nj then ι1 z else ι b
  have hnew : ι' nj = ι1 z := by simp [ι']
  have hoth : ∀ b, b ≠ nj → ι' b = ι b := fun b h => by simp [ι', h]
  have hup : ∀ b L, ι b = some L → ι' b = some L := by
    intro b L h
    by_cases hb : b = nj
    · subst hb; rw [hnone] at h; cases h
    · rw [hoth b hb]; exact h
  have hup1 : ∀ b L, low z ι1 b = some L → ι' b = some L := by
    intro b L h
    obtain ⟨hb, h⟩ := low_some.1 h
    exact hup b L (by rw [← hold b hb]; exact h)
  have hGf : ∀ b, b < z → (G.push k0).f b = G.f b := fun b hb => AHeap.push_old _ _ (by omega)
  have hGz : (G.push k0).f z = k0 := by rw [← hGn]; exact AHeap.push_new G k0
  have hGnj : G.f nj = k0 := hk0
  have hAD : (∀ xs el rw, k0 = .cells xs el rw → ADs z xs) ∧ (∀ es, k0 = .map es → ∀ p, p ∈ es → AD z p.2) := by
    refine ⟨fun xs el rw hk => ?_, fun es hk => ?_⟩
    · have := hclG.cells nj xs el rw (by rw [hGnj, hk])
      rwa [hGn] at this
    · have := hclG.maps nj es (by rw [hGnj, hk])
      rwa [hGn] at this
  refine ⟨ι', I.next_dn hj hr, fun k hk => ?_, I.le, fun k o ho hek => ?_, fun b L h => ?_, ⟨fun b L h => ?_, fun b L h => ?_, fun b c L M h1 h2 hne ho ha => ?_, r.base, fun b => Nat.lt_succ_self _⟩,
    ⟨fun b hb => ?_, I.stp.hn, Nat.le_trans I.stp.wn s.wn, s.os.trans I.stp.os, s.tape.trans I.stp.tape, s.output.trans I.stp.output, (I.stp.trans s).fr, fun b L hb h => ?_, I.stp.own, I.stp.vo⟩, ?_,
    (I.tmps W hj hS hr hup (v' := v') ?_ hd).1, (I.tmps W hj hS hr hup (v' := v') ?_ hd).2, ?_⟩
  · by_cases hkj : k = j
    · omega
    · exact I.lt k (by simpa [add, hkj] using hk)
  · by_cases hkj : k = j
    · subst hkj; rw [hj] at ho; cases ho; rw [he] at hek; cases hek
    · simpa [add, hkj] using I.ev k o ho hek
  · by_cases hb : b = nj
    · subst hb; exact .inr ⟨j, by simp [add], by omega, by omega⟩
    · rw [hoth b hb] at h
      rcases I.dom b L h with h | ⟨k, hk, h⟩
      · exact .inl h
      · exact .inr ⟨k, by simp [add, hk], h⟩
  · change RB P B ι' w' L (G.f b)
    by_cases hb : b = nj
    · subst hb
      rw [hnew] at h
      have := r.blk z L h
      rw [hGz] at this
      rw [hGnj]
      exact (this.low hAD.1 hAD.2).mono hup1
    · rw [hoth b hb] at h
      have hbz := hιz b L h
      have := r.blk b L (by rw [hold b hbz]; exact h)
      rw [hGf b hbz] at this
      have h3 := this.lowCl (H := G) hclG
      rw [hGn] at h3
      exact h3.mono hup1
  · change b < G.n ∧ _
    by_cases hb : b = nj
    · subst hb
      rw [hnew] at h
      exact ⟨by omega, (r.lt z L h).2⟩
    · rw [hoth b hb] at h
      have hbz := hιz b L h
      exact ⟨by omega, (r.lt b L (by rw [hold b hbz]; exact h)).2⟩
  · change owned (G.f b) = true at ho
    change alive (G.f c) = true at ha
    by_cases hb : b = nj
    · have hc : c ≠ nj := by rintro rfl; exact hne hb
      subst hb
      rw [hnew] at h1
      rw [hoth c hc] at h2
      have hcz := hιz c M h2
      exact r.inj z c L M h1 (by rw [hold c hcz]; exact h2) (by omega) (by rw [hGz, ← hGnj]; exact ho) (by rw [hGf c hcz]; exact ha)
    · rw [hoth b hb] at h1
      have hbz := hιz b L h1
      by_cases hc : c = nj
      · subst hc
        rw [hnew] at h2
        exact r.inj b z L M (by rw [hold b hbz]; exact h1) h2 (by omega) (by rw [hGf b hbz]; exact ho) (by rw [hGz, ← hGnj]; exact ha)
      · rw [hoth c hc] at h2
        exact r.inj b c L M (by rw [hold b hbz]; exact h1) (by rw [hold c (hιz c M h2)]; exact h2) hne (by rw [hGf b hbz]; exact ho) (by rw [hGf c (hιz c M h2)]; exact ha)
  · rw [hoth b (by omega)]; exact I.stp.ext b hb
  · by_cases hbj : b = nj
    · subst hbj
      rw [hnew] at h
      exact (I.stp.trans s).new z L (by omega) h
    · rw [hoth b hbj] at h
      exact I.stp.new b L hb h
  · cases oj.dst with
    | none => exact I.tN
    | some d => simpa [Act.put] using I.tN
  · rw [hvj]; exact fresh_as hf hv hnew
  · rw [hvj]; exact fresh_as hf hv hnew
  · cases oj.dst <;> exact I.df

/-- ONE OPERATION, whichever is ready. -/
theorem Inv.op (W : Walk P N call ops F vs) (hc : CallOK P call) (I : Inv P B N ops F vs ι0 w0 S e ι a w) {j : Nat} {oj : Oper} (hj : ops[j]? = some oj) (hS : S j = false)
    (hr : ∀ e ∈ oj.after, Region.binds .any e = true → S e.on = true) {Q : Exit → Act → World → Prop} {K : Act → World → Prop}
    (hK : ∀ e' ι' a' w', Inv P B N ops F vs ι0 w0 (add S j) e' ι' a' w' → K a' w') : wpOp P ops Q j K a w := by
  have hlt : j < ops.size := (Array.getElem?_eq_some_iff.1 hj).1
  have ok := W.ok j (by omega)
  have ht : RT ι N (clr (Eng.looks ops oj) (F j).1) a.tmps := by
    refine ⟨I.tN, fun t => ?_⟩
    rw [get_clr]
    split
    · exact I.looks W hj hS hr (by assumption)
    · exact .unk _
  have hat := ok.at_.clr (Eng.looks ops oj)
  cases he : isEff oj.op with
  | true =>
    have I' := I.atEff W hj hS hr he
    refine step_sound hc hj (I'.relLow W) (T := clr (Eng.looks ops oj) (F j).1) ⟨ht.1, fun t => (ht.2 t).low (hat t)⟩ (fun _ => ⟨ok.cl, hat⟩) (W.tr.step j oj hj) ?_
    intro ι1 v' w' h1 h2 h3 h4
    obtain ⟨ι', J⟩ := I'.eff W hj hS hr h1 h2 h3 h4
    exact hK _ _ _ _ J
  | false =>
    have hpair := fun i oi (ho : ops[i]? = some oi) (hq : isEff oi.op = true) (ha : apart (masks ops.toList []) i j = true) => W.pair i j oi oj ho hj hq he ha
    have hsame : goes ops oj (clr (Eng.looks ops oj) (F j).1) ≠ some false → ∀ k, rdBlk (Eng.ev (clr (Eng.looks ops oj) (F j).1)) oj.op = some k → (Gat F ops.size (F 0).2.clk e).f k = (F j).2.f k := by
      intro hg k hk
      have hkn : k < (F j).2.n := by
        have hbo : ∀ x, blockOf (Eng.ev (clr (Eng.looks ops oj) (F j).1) x) = some k → k < (F j).2.n := by
          intro x hx
          have := hat.ev x
          generalize Eng.ev (clr (Eng.looks ops oj) (F j).1) x = q at hx this
          cases this <;> simp [blockOf] at hx <;> omega
        cases hq : oj.op <;> simp only [hq, rdBlk] at hk <;> first
          | exact hbo _ hk
          | cases hk
      exact I.same W hj hS hr he hkn fun i oi ho hq ha => (hpair i oi ho hq ha).1 hg k hk
    rcases step_alike (G := Gat F ops.size (F 0).2.clk e) he hsame (W.tr.step j oj hj) with ⟨h1, h2⟩ | ⟨k0, f, hf, h1, h2, h3⟩
    · refine step_sound hc hj I.rel ht (fun h => by rw [he] at h; cases h) h2 ?_
      intro ι1 v' w' g1 g2 g3 g4
      obtain ⟨ι', J⟩ := I.lazy W hj hS hr he (by rw [h1]) g1 g2 g3 g4
      exact hK _ _ _ _ J
    · have hk0 : con F (ops.size - e) e (F j).2.n = k0 := by
        have hnew : (F (j + 1)).2.f (F j).2.n = k0 := by rw [h1]; exact AHeap.push_new _ _
        have hn : (F (j + 1)).2.n = (F j).2.n + 1 := by rw [h1]; rfl
        rcases Nat.lt_or_ge j e with h | h
        · have hne : (F (j + 1)).2.n ≤ (F e).2.n := W.n_mono (by omega) I.le
          rw [con_at (by omega), ← hnew]
          refine W.chain (by omega) e (by omega) I.le fun i g1 g2 => ?_
          have hie := I.le
          have hni : (F (j + 1)).2.n ≤ (F i).2.n := W.n_mono g1 (by omega)
          have ho : ops[i]? = some ops[i] := by simp [show i < ops.size by omega]
          cases hq : isEff ops[i].op with
          | false => exact W.quiet_f ho hq (by omega)
          | true =>
            have hSi := (I.ev i _ ho hq).2 g2
            have hap : apart (masks ops.toList []) i j = true := by
              rcases Classical.em (apart (masks ops.toList []) i j = true) with h3 | h3
              · exact h3
              · exfalso
                rcases not_apart h3 with h3 | h3
                · have := W.ord.lt h3; omega
                · have := (W.ord.pred I.dn i (fun o' ho' => by rw [ho] at ho'; cases ho'; exact I.dn i _ ho hSi) h3).1
                  rw [hS] at this; cases this
            rcases (hpair i _ ho hq hap).2 with h4 | h4 | h4
            · omega
            · omega
            · rcases (W.vo i (by omega)).old (F j).2.n (by omega) with h5 | h5
              · exact h5.2
              · have := (W.ok i (by omega)).cl.ver (F j).2.n
                omega
        · rw [← hnew]
          have hskip : ∀ d e, e + d = j → con F (ops.size - e) e (F j).2.n = con F (ops.size - (j + 1)) (j + 1) (F j).2.n := by
            intro d
            induction d with
            | zero =>
              intro e h
              have : e = j := by omega
              subst this
              exact con_skip hlt (Nat.le_refl _)
            | succ d ih =>
              intro e h
              rw [con_skip (by omega) (W.n_mono (by omega) (by omega))]
              exact ih (e + 1) (by omega)
          rw [hskip (j - e) e (by omega)]
          exact con_at (by omega)
      refine step_sound hc hj I.rel ht (fun h => by rw [he] at h; cases h) h3 ?_
      intro ι1 v' w' g1 g2 g3 g4
      obtain ⟨ι', J⟩ := I.make W hj hS hr he hf h1 h2 hk0 g1 g2 g3 g4
      exact hK _ _ _ _ J

end Go.Proofs.Ytlagijfkkpbbnaa.Eng
