/-
  The engine, part 13: a region that draws its order gives what the order of the text gives.
  Conditions: none. By an AI agent.
-/
import Derived.Test.YtlagijfkkpbbnaaEng12
namespace Go.Proofs.Ytlagijfkkpbbnaa.Eng
open Go
set_option linter.unusedVariables false
set_option linter.unusedSimpArgs false

variable {P : Program} {B : Nat}

/-! ### Who stands before whom -/

def maskOf (acc : List Nat) (o : Oper) : Nat := o.after.toList.foldl (fun s e => if Region.binds .any e then s ||| 2 ^ e.on ||| acc.getD e.on 0 else s) 0

theorem mask_bit {g : Nat → Nat} {i : Nat} : ∀ (l : List Edge) (s : Nat), (l.foldl (fun s e => if Region.binds .any e then s ||| 2 ^ e.on ||| g e.on else s) s).testBit i = true →
    s.testBit i = true ∨ ∃ e ∈ l, Region.binds .any e = true ∧ (i = e.on ∨ (g e.on).testBit i = true)
  | [], s, h => .inl h
  | e :: l, s, h => by
    simp only [List.foldl_cons] at h
    rcases mask_bit l _ h with h | ⟨e', h1, h2, h3⟩
    · split at h
      · rename_i hb
        simp only [Nat.testBit_or, Bool.or_eq_true, Nat.testBit_two_pow, decide_eq_true_eq] at h
        rcases h with (h | h) | h
        · exact .inl h
        · exact .inr ⟨e, by simp, hb, .inl h.symm⟩
        · exact .inr ⟨e, by simp, hb, .inr h⟩
      · exact .inl h
    · exact .inr ⟨e', by simp [h1], h2, h3⟩

theorem masks_step (o : Oper) (r : List Oper) (acc : List Nat) : masks (o :: r) acc = masks r (acc ++ [maskOf acc o]) := rfl

theorem masks_old : ∀ (l : List Oper) (acc : List Nat) (j : Nat), j < acc.length → (masks l acc).getD j 0 = acc.getD j 0
  | [], _, _, _ => rfl
  | o :: r, acc, j, h => by
    rw [masks_step, masks_old r _ j (by simp; omega)]
    simp [List.getElem?_append_left h]

theorem masks_bit : ∀ (l : List Oper) (acc : List Nat) (i j : Nat), bit (masks l acc) i j = true → acc.length ≤ j →
    ∃ o, l[j - acc.length]? = some o ∧ ∃ e ∈ o.after, Region.binds .any e = true ∧ (i = e.on ∨ bit (masks l acc) i e.on = true)
  | [], acc, i, j, h, hj => by
    simp [bit, masks, List.getElem?_eq_none hj] at h
  | o :: r, acc, i, j, h, hj => by
    rw [masks_step] at h ⊢
    by_cases hja : j = acc.length
    · subst hja
      refine ⟨o, by simp, ?_⟩
      unfold bit at h
      rw [masks_old r _ _ (by simp)] at h
      simp only [List.getD_eq_getElem?_getD, List.getElem?_concat_length, Option.getD_some] at h
      rcases mask_bit (g := fun x => acc.getD x 0) o.after.toList 0 h with h | ⟨e, h1, h2, h3⟩
      · simp at h
      · refine ⟨e, by simpa using h1, h2, h3.imp id fun h4 => ?_⟩
        unfold bit
        by_cases hl : e.on < acc.length
        · rw [masks_old r _ _ (by simp; omega)]
          simpa [List.getElem?_append_left hl] using h4
        · simp [List.getElem?_eq_none (Nat.le_of_not_lt hl)] at h4
    · obtain ⟨o', h1, h2⟩ := masks_bit r _ i j h (by simp; omega)
      refine ⟨o', ?_, h2⟩
      rw [← h1, show j - acc.length = (j - (acc ++ [maskOf acc o]).length) + 1 by simp; omega]
      simp

/-- What drawOk says. -/
structure Ord (ops : Array Oper) (m : List Nat) : Prop where
  back : ∀ k o, ops[k]? = some o → ∀ e ∈ o.after, Region.binds .any e = true → e.on < k
  tmp : ∀ x y ox oy, ops[x]? = some ox → ops[y]? = some oy → x ≠ y → apart m x y = true → ∀ t, oy.dst = some t → t ∉ looks ops ox ∧ ox.dst ≠ some t
  eff : ∀ x y ox oy, ops[x]? = some ox → ops[y]? = some oy → x ≠ y → apart m x y = true → isEff ox.op = true → isEff oy.op = true → False

theorem mem_zip {ops : Array Oper} {k : Nat} {o : Oper} (h : ops[k]? = some o) : (o, k) ∈ ops.toList.zipIdx := by
  rw [List.mem_zipIdx_iff_getElem?]
  simpa using h

theorem drawOk_ord {ops : Array Oper} (h : drawOk ops = true) : Ord ops (masks ops.toList []) := by
  unfold drawOk at h
  simp only [Bool.and_eq_true] at h
  obtain ⟨⟨h1, h2⟩, h3⟩ := h
  refine ⟨fun k o ho e he hb => ?_, fun x y ox oy hx hy hne ha t ht => ?_, fun x y ox oy hx hy hne ha e1 e2 => ?_⟩
  · have := List.all_eq_true.1 (List.all_eq_true.1 h1 _ (mem_zip ho)) e (by simpa using he)
    simpa [hb] using this
  · have := List.all_eq_true.1 (List.all_eq_true.1 h2 _ (mem_zip hx)) _ (mem_zip hy)
    simpa [ht, ha, hne] using this
  · have := List.all_eq_true.1 (List.all_eq_true.1 h3 _ (mem_zip hx)) _ (mem_zip hy)
    simp [ha, hne, e1, e2] at this

theorem Ord.pred {ops : Array Oper} (o : Ord ops (masks ops.toList [])) {S : Nat → Bool} (hd : ∀ k o, ops[k]? = some o → S k = true → ∀ e ∈ o.after, Region.binds .any e = true → S e.on = true) :
    ∀ (k : Nat) {i : Nat}, (∀ o, ops[k]? = some o → ∀ e ∈ o.after, Region.binds .any e = true → S e.on = true) → bit (masks ops.toList []) i k = true → S i = true ∧ i < k := by
  intro k
  induction k using Nat.strongRecOn with
  | _ k ih =>
    intro i hk hb
    obtain ⟨x, hx, e, he, hbe, h⟩ := masks_bit _ _ _ _ hb (by simp)
    simp at hx
    have hlt := o.back k x hx e he hbe
    have hS := hk x hx e he hbe
    rcases h with rfl | h
    · exact ⟨hS, hlt⟩
    · have := ih e.on hlt (fun o' ho' => hd e.on o' ho' hS) h
      exact ⟨this.1, by omega⟩

theorem Ord.lt {ops : Array Oper} (o : Ord ops (masks ops.toList [])) {i k : Nat} (hb : bit (masks ops.toList []) i k = true) : i < k :=
  (o.pred (S := fun _ => true) (fun _ _ _ _ _ _ _ => rfl) k (fun _ _ _ _ _ => rfl) hb).2

theorem not_apart {m : List Nat} {x y : Nat} (h : ¬ apart m x y = true) : bit m x y = true ∨ bit m y x = true := by
  unfold apart at h
  cases h1 : bit m x y <;> cases h2 : bit m y x <;> simp_all

/-! ### The contents of the blocks while some operations are still to come -/

def con (F : Nat → Env × AHeap) : Nat → Nat → Nat → Blk
  | 0, e, b => (F e).2.f b
  | d + 1, e, b => if b < (F e).2.n then (F e).2.f b else con F d (e + 1) b

section
variable {N : Nat} {call : CallF} {ops : Array Oper} {F : Nat → Env × AHeap} {vs : Nat → Value}

theorem con_at {d e b : Nat} (h : b < (F e).2.n) : con F d e b = (F e).2.f b := by
  cases d with
  | zero => rfl
  | succ d => simp [con, h]

theorem con_skip {z e b : Nat} (he : e < z) (h : (F e).2.n ≤ b) : con F (z - e) e b = con F (z - (e + 1)) (e + 1) b := by
  obtain ⟨d, hd⟩ : ∃ d, z - e = d + 1 := ⟨z - e - 1, by omega⟩
  rw [hd, show z - (e + 1) = d by omega]
  simp [con, Nat.not_lt.2 h]

theorem con_from {z : Nat} : ∀ (d e b : Nat), e + d = z → ∃ m, e ≤ m ∧ m ≤ z ∧ con F d e b = (F m).2.f b
  | 0, e, b, h => ⟨e, by omega, by omega, rfl⟩
  | d + 1, e, b, h => by
    unfold con
    split
    · exact ⟨e, by omega, by omega, rfl⟩
    · obtain ⟨m, h1, h2, h3⟩ := con_from (z := z) d (e + 1) b (by omega)
      exact ⟨m, by omega, h2, h3⟩

/-- All that is said of the walk in the order of the text. -/
structure Walk (P : Program) (N : Nat) (call : CallF) (ops : Array Oper) (F : Nat → Env × AHeap) (vs : Nat → Value) : Prop where
  tr : Tr P N call ops F vs
  ok : ∀ k, k ≤ ops.size → OkT (F 0).2 (F k).1 (F k).2
  vo : ∀ k, k < ops.size → VO (F k).2 (F (k + 1)).2
  ord : Ord ops (masks ops.toList [])
  pair : ∀ i j oi oj, ops[i]? = some oi → ops[j]? = some oj → isEff oi.op = true → isEff oj.op = false → apart (masks ops.toList []) i j = true →
    (goes ops oj (clr (looks ops oj) (F j).1) ≠ some false → ∀ k, rdBlk (ev (clr (looks ops oj) (F j).1)) oj.op = some k → (F i).2.n ≤ k ∨ (F (i + 1)).2.ver k = (F i).2.ver k) ∧
    ((F i).2.n ≤ (F j).2.n ∨ (F (j + 1)).2.n ≤ (F j).2.n ∨ (F (i + 1)).2.ver (F j).2.n = (F i).2.ver (F j).2.n)

theorem Walk.n_mono (W : Walk P N call ops F vs) {j : Nat} : ∀ {k : Nat}, j ≤ k → k ≤ ops.size → (F j).2.n ≤ (F k).2.n := by
  intro k hjk hk
  induction k with
  | zero => have : j = 0 := by omega
            subst this; exact Nat.le_refl _
  | succ k ih =>
    by_cases h : j = k + 1
    · subst h; exact Nat.le_refl _
    · exact Nat.le_trans (ih (by omega) (by omega)) (W.vo k (by omega)).n

/-- An operation that turns no memory. -/
theorem Walk.quiet (W : Walk P N call ops F vs) {k : Nat} {o : Oper} (ho : ops[k]? = some o) (he : isEff o.op = false) :
    ((F (k + 1)).2 = (F k).2) ∨ ∃ b, (F (k + 1)).2 = (F k).2.push b := by
  rcases step_alike (G := (F k).2) he (fun _ _ _ => rfl) (W.tr.step k o ho) with ⟨h, _⟩ | ⟨b, f, _, h, _⟩
  · exact .inl h
  · exact .inr ⟨b, h⟩

theorem Walk.quiet_f (W : Walk P N call ops F vs) {k : Nat} {o : Oper} (ho : ops[k]? = some o) (he : isEff o.op = false) {b : Nat} (hb : b < (F k).2.n) : (F (k + 1)).2.f b = (F k).2.f b := by
  rcases W.quiet ho he with h | ⟨x, h⟩
  · rw [h]
  · rw [h, AHeap.push_old _ _ (by omega)]

theorem Walk.con_quiet (W : Walk P N call ops F vs) {e : Nat} {o : Oper} (ho : ops[e]? = some o) (he : isEff o.op = false) (b : Nat) : con F (ops.size - e) e b = con F (ops.size - (e + 1)) (e + 1) b := by
  have hlt : e < ops.size := (Array.getElem?_eq_some_iff.1 ho).1
  by_cases hb : b < (F e).2.n
  · rw [con_at hb, con_at (Nat.lt_of_lt_of_le hb (W.vo e hlt).n), W.quiet_f ho he hb]
  · exact con_skip hlt (Nat.le_of_not_lt hb)

theorem Walk.con_move (W : Walk P N call ops F vs) {e : Nat} (b : Nat) : ∀ (e' : Nat), e ≤ e' → e' ≤ ops.size → (∀ k o, e ≤ k → k < e' → ops[k]? = some o → isEff o.op = false) →
    con F (ops.size - e) e b = con F (ops.size - e') e' b := by
  intro e'
  induction e' with
  | zero => intro h _ _; have : e = 0 := by omega
            subst this; rfl
  | succ k ih =>
    intro h1 h2 h3
    by_cases h : e = k + 1
    · subst h; rfl
    · rw [ih (by omega) (by omega) fun i o a b c => h3 i o a (by omega) c]
      exact W.con_quiet (o := ops[k]) (by simp [show k < ops.size by omega]) (h3 k _ (by omega) (by omega) (by simp [show k < ops.size by omega])) b

/-- A block that no operation between turns. -/
theorem Walk.chain (W : Walk P N call ops F vs) {j b : Nat} (hb : b < (F j).2.n) : ∀ (e : Nat), j ≤ e → e ≤ ops.size → (∀ i, j ≤ i → i < e → (F (i + 1)).2.f b = (F i).2.f b) → (F e).2.f b = (F j).2.f b := by
  intro e
  induction e with
  | zero => intro h _ _; have : j = 0 := by omega
            subst this; rfl
  | succ k ih =>
    intro h1 h2 h3
    by_cases h : j = k + 1
    · subst h; rfl
    · rw [h3 k (by omega) (by omega), ih (by omega) (by omega) fun i a b => h3 i a (by omega)]

theorem Walk.ahead (W : Walk P N call ops F vs) {j b : Nat} (hj : j ≤ ops.size) (hb : b < (F j).2.n) : ∀ (d e : Nat), e + d = j → (∀ i, e ≤ i → i < j → b < (F i).2.n → (F (i + 1)).2.f b = (F i).2.f b) →
    con F (ops.size - e) e b = (F j).2.f b
  | 0, e, h, _ => by
    have : e = j := by omega
    subst this
    exact con_at hb
  | d + 1, e, h, hok => by
    have ih := W.ahead hj hb d (e + 1) (by omega) fun i h1 h2 => hok i (by omega) h2
    by_cases hbe : b < (F e).2.n
    · rw [con_at hbe, ← hok e (by omega) (by omega) hbe, ← con_at (F := F) (d := ops.size - (e + 1)) (e := e + 1) (Nat.lt_of_lt_of_le hbe (W.vo e (by omega)).n)]
      exact ih
    · rw [con_skip (by omega) (Nat.le_of_not_lt hbe)]; exact ih

def Gat (F : Nat → Env × AHeap) (z clk e : Nat) : AHeap := ⟨(F z).2.n, clk + 1, con F (z - e) e, fun _ => clk⟩

theorem Walk.clG (W : Walk P N call ops F vs) {clk e : Nat} (he : e ≤ ops.size) : Cl (Gat F ops.size clk e) := by
  refine ⟨fun b xs el rw h => ?_, fun b es h => ?_, fun b => Nat.lt_succ_self _⟩
  · obtain ⟨m, h1, h2, h3⟩ := con_from (F := F) (z := ops.size) (ops.size - e) e b (by omega)
    exact ((W.ok m h2).cl.cells b xs el rw (by rw [← h3]; exact h)).mono (W.n_mono h2 (Nat.le_refl _))
  · obtain ⟨m, h1, h2, h3⟩ := con_from (F := F) (z := ops.size) (ops.size - e) e b (by omega)
    intro p hp
    exact ((W.ok m h2).cl.maps b es (by rw [← h3]; exact h) p hp).mono (W.n_mono h2 (Nat.le_refl _))

/-! ### What was carried out -/

structure Inv (P : Program) (B N : Nat) (ops : Array Oper) (F : Nat → Env × AHeap) (vs : Nat → Value) (ι0 : Emb) (w0 : World) (S : Nat → Bool) (e : Nat) (ι : Emb) (a : Act) (w : World) : Prop where
  dn : ∀ k o, ops[k]? = some o → S k = true → ∀ e ∈ o.after, Region.binds .any e = true → S e.on = true
  lt : ∀ k, S k = true → k < ops.size
  le : e ≤ ops.size
  ev : ∀ k o, ops[k]? = some o → isEff o.op = true → (S k = true ↔ k < e)
  dom : ∀ b L, ι b = some L → b < (F 0).2.n ∨ ∃ k, S k = true ∧ (F k).2.n ≤ b ∧ b < (F (k + 1)).2.n
  rel : Rel P B ι (Gat F ops.size (F 0).2.clk e) w
  stp : Stp ι0 (F 0).2 w0 ι (Gat F ops.size (F 0).2.clk e) w
  tN : N ≤ a.tmps.size
  tw : ∀ k o t, ops[k]? = some o → S k = true → o.dst = some t → (∀ k' o', ops[k']? = some o' → S k' = true → k < k' → o'.dst ≠ some t) → RV ι (vs k) (a.tmps.getD t undef)
  t0 : ∀ t, (∀ k o, ops[k]? = some o → S k = true → o.dst ≠ some t) → RV ι (get (F 0).1 t) (a.tmps.getD t undef)
  df : a.defers = []

/-- Who wrote a temporary last, in the order of the text. -/
theorem Tr.last (W : Tr P N call ops F vs) (t : Nat) : ∀ j, j ≤ ops.size →
    (∃ k o, k < j ∧ ops[k]? = some o ∧ o.dst = some t ∧ (∀ k' o', k < k' → k' < j → ops[k']? = some o' → o'.dst ≠ some t) ∧ get (F j).1 t = vs k) ∨
    ((∀ k o, k < j → ops[k]? = some o → o.dst ≠ some t) ∧ get (F j).1 t = get (F 0).1 t)
  | 0, _ => .inr ⟨fun k o h => by omega, rfl⟩
  | j + 1, hj => by
    have ho : ops[j]? = some ops[j] := by simp [show j < ops.size by omega]
    have he := W.env j _ ho
    by_cases hd : ops[j].dst = some t
    · refine .inl ⟨j, _, by omega, ho, hd, fun k' o' h1 h2 => by omega, ?_⟩
      rw [he, hd]
      simp [put, get_cons]
    · have hg : get (F (j + 1)).1 t = get (F j).1 t := by
        rw [he]
        cases hq : ops[j].dst with
        | none => rfl
        | some d =>
          simp only [put, get_cons]
          rw [if_neg]
          rintro rfl
          exact hd hq
      rcases W.last t j (by omega) with ⟨k, o, h1, h2, h3, h4, h5⟩ | ⟨h1, h2⟩
      · refine .inl ⟨k, o, by omega, h2, h3, fun k' o' a b c => ?_, hg.trans h5⟩
        by_cases hk : k' = j
        · subst hk; rw [ho] at c; cases c; exact hd
        · exact h4 k' o' a (by omega) c
      · refine .inr ⟨fun k o a c => ?_, hg.trans h2⟩
        by_cases hk : k = j
        · subst hk; rw [ho] at c; cases c; exact hd
        · exact h1 k o (by omega) c

theorem get_put (T : Env) (dst : Option Nat) (v : Value) (t : Nat) : get (put T dst v) t = if dst = some t then v else get T t := by
  cases dst with
  | none => simp [put]
  | some d =>
    simp only [put, get_cons, Option.some.injEq]
    by_cases h : t = d
    · subst h; simp
    · rw [if_neg h, if_neg (fun e => h e.symm)]

theorem tmps_put {a : Act} {dst : Option Nat} (hd : dstOk N dst = true) (hN : N ≤ a.tmps.size) (v : Value) (t : Nat) : (a.put dst v).tmps.getD t undef = if dst = some t then v else a.tmps.getD t undef := by
  cases dst with
  | none => simp [Act.put]
  | some d =>
    have hlt : d < a.tmps.size := by
      have : d < N := by simpa [dstOk] using hd
      omega
    by_cases h : d = t
    · subst h; simp [Act.put, hlt]
    · rw [if_neg (by simpa using h)]
      simp [Act.put, Array.getElem?_setIfInBounds_ne h]

variable {ι0 ι : Emb} {w0 w : World} {S : Nat → Bool} {e : Nat} {a : Act}

/-- An operation whose predecessors were carried out finds the temporaries that it looks at. -/
theorem Inv.looks (W : Walk P N call ops F vs) (I : Inv P B N ops F vs ι0 w0 S e ι a w) {j : Nat} {oj : Oper} (hj : ops[j]? = some oj) (hS : S j = false)
    (hr : ∀ e ∈ oj.after, Region.binds .any e = true → S e.on = true) {t : Nat} (ht : t ∈ Eng.looks ops oj) : RV ι (get (F j).1 t) (a.tmps.getD t undef) := by
  have hlt : j < ops.size := (Array.getElem?_eq_some_iff.1 hj).1
  have hpred : ∀ k, bit (masks ops.toList []) k j = true → S k = true := fun k hk =>
    (W.ord.pred I.dn j (fun o ho => by rw [hj] at ho; cases ho; exact hr) hk).1
  have hnot : ∀ k o, ops[k]? = some o → k ≠ j → o.dst = some t → (bit (masks ops.toList []) k j = true ∨ bit (masks ops.toList []) j k = true) := by
    intro k o ho hne hd
    have := W.ord.tmp j k oj o hj ho (Ne.symm hne)
    rcases Classical.em (apart (masks ops.toList []) j k = true) with h | h
    · exact absurd ht (this h t hd).1
    · exact (not_apart h).symm
  have hafter : ∀ k o, ops[k]? = some o → j < k → S k = true → o.dst ≠ some t := by
    intro k o ho hlt hk hd
    rcases hnot k o ho (by omega) hd with h | h
    · have := W.ord.lt h; omega
    · have := (W.ord.pred I.dn k (fun o' ho' => by rw [ho] at ho'; cases ho'; exact I.dn k o ho hk) h).1
      rw [hS] at this; cases this
  rcases W.tr.last t j (by omega) with ⟨k, o, h1, h2, h3, h4, h5⟩ | ⟨h1, h2⟩
  · rw [h5]
    have hk : S k = true := by
      rcases hnot k o h2 (by omega) h3 with h | h
      · exact hpred k h
      · have := W.ord.lt h; omega
    refine I.tw k o t h2 hk h3 fun k' o' ho' hk' hlt' => ?_
    rcases Nat.lt_trichotomy k' j with h | h | h
    · exact h4 k' o' hlt' h ho'
    · subst h; rw [hS] at hk'; cases hk'
    · exact hafter k' o' ho' h hk'
  · rw [h2]
    refine I.t0 t fun k o ho hk => ?_
    rcases Nat.lt_trichotomy k j with h | h | h
    · exact h1 k o h ho
    · subst h; rw [hS] at hk; cases hk
    · exact hafter k o ho h hk

def add (S : Nat → Bool) (j : Nat) : Nat → Bool := fun k => k == j || S k

/-- The temporaries behind an operation. -/
theorem Inv.tmps (W : Walk P N call ops F vs) (I : Inv P B N ops F vs ι0 w0 S e ι a w) {j : Nat} {oj : Oper} (hj : ops[j]? = some oj) (hS : S j = false)
    (hr : ∀ e ∈ oj.after, Region.binds .any e = true → S e.on = true) {ι' : Emb} (hι : ∀ b L, ι b = some L → ι' b = some L) {v' : Value} (hv : RV ι' (vs j) v') (hd : dstOk N oj.dst = true) :
    (∀ k o t, ops[k]? = some o → add S j k = true → o.dst = some t → (∀ k' o', ops[k']? = some o' → add S j k' = true → k < k' → o'.dst ≠ some t) → RV ι' (vs k) ((a.put oj.dst v').tmps.getD t undef)) ∧
    (∀ t, (∀ k o, ops[k]? = some o → add S j k = true → o.dst ≠ some t) → RV ι' (get (F 0).1 t) ((a.put oj.dst v').tmps.getD t undef)) := by
  have hin : ∀ k, S k = true → add S j k = true := fun k h => by simp [add, h]
  refine ⟨fun k o t ho hk hkd hlast => ?_, fun t h => ?_⟩
  · rw [tmps_put hd I.tN]
    by_cases hkj : k = j
    · subst hkj
      rw [hj] at ho; cases ho
      rw [if_pos hkd]; exact hv
    · have hk' : S k = true := by simpa [add, hkj] using hk
      have hne : oj.dst ≠ some t := by
        intro hjd
        have hjk : j < k := by
          rcases Nat.lt_trichotomy k j with h | h | h
          · exact absurd hjd (hlast j oj hj (by simp [add]) h)
          · exact absurd h hkj
          · exact h
        have := W.ord.tmp j k oj o hj ho (Ne.symm hkj)
        rcases Classical.em (apart (masks ops.toList []) j k = true) with h | h
        · exact (this h t hkd).2 hjd
        · rcases not_apart h with h | h
          · have := (W.ord.pred I.dn k (fun o' ho' => by rw [ho] at ho'; cases ho'; exact I.dn k o ho hk') h).1
            rw [hS] at this; cases this
          · have := W.ord.lt h; omega
      rw [if_neg hne]
      exact (I.tw k o t ho hk' hkd fun k' o' ho' hk'' => hlast k' o' ho' (hin k' hk'')).mono hι
  · rw [tmps_put hd I.tN, if_neg (h j oj hj (by simp [add]))]
    exact (I.t0 t fun k o ho hk => h k o ho (hin k hk)).mono hι

theorem Inv.next_dn (I : Inv P B N ops F vs ι0 w0 S e ι a w) {j : Nat} {oj : Oper} (hj : ops[j]? = some oj) (hr : ∀ e ∈ oj.after, Region.binds .any e = true → S e.on = true) :
    ∀ k o, ops[k]? = some o → add S j k = true → ∀ e ∈ o.after, Region.binds .any e = true → add S j e.on = true := by
  intro k o ho hk e he hb
  by_cases hkj : k = j
  · subst hkj
    rw [hj] at ho; cases ho
    simp [add, hr e he hb]
  · have hk' : S k = true := by simpa [add, hkj] using hk
    simp [add, I.dn k o ho hk' e he hb]

/-- A new block is in nobody's way. -/
theorem Inv.room (W : Walk P N call ops F vs) (I : Inv P B N ops F vs ι0 w0 S e ι a w) {j : Nat} (hj : j < ops.size) (hS : S j = false) {b : Nat} (h1 : (F j).2.n ≤ b) (h2 : b < (F (j + 1)).2.n) : ι b = none := by
  cases hq : ι b with
  | none => rfl
  | some L =>
    exfalso
    rcases I.dom b L hq with h | ⟨k, hk, h3, h4⟩
    · have := W.n_mono (j := 0) (k := j) (by omega) (by omega); omega
    · have hkz := I.lt k hk
      rcases Nat.lt_trichotomy k j with h | h | h
      · have := W.n_mono (j := k + 1) (k := j) (by omega) (by omega); omega
      · subst h; rw [hS] at hk; cases hk
      · have := W.n_mono (j := j + 1) (k := k) (by omega) (by omega); omega

end
end Go.Proofs.Ytlagijfkkpbbnaa.Eng
