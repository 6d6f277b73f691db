/-
  15 texts in one (merge.py): Se Sf ShExpireMany DsExpireMany Ma Ha Pa Pb Pc Pd Pe Pf Pg ShExpirePlays DsExpirePlays.
  Conditions: none. By an AI agent.
-/
import Derived.Test.YthjjkinpbpealaaLawExpirePlaysQ1
import Derived.Test.YthjjkinpbpealaaChecked
import Derived.KernelRfl

/-
  Chapter 45: a store: what has ended, Waiting, Len, Sweep.
  Conditions: none. By an AI agent.
-/
set_option maxRecDepth 10000
set_option linter.unusedSimpArgs false
set_option linter.unusedVariables false
namespace Go.Proofs.Ythjjkinpbpealaa
open Go Eng
attribute [local congr] bareK_congr' bothK_congr' quietK_congr'

theorem EStr_cells : ∀ l : List ByteArray, EStr.cells l = l.map .string
  | [] => rfl
  | s :: l => by
    have : EStr.cells (s :: l) = .string s :: EStr.cells l := rfl
    rw [this, EStr_cells l]
    rfl

def conv (p : ByteArray × Nat) : List UInt8 × Int := (p.1.data.toList, (p.2 : Int))
def dueS (S : List En) (now : Nat) : List (ByteArray × Nat) := (S.filter fun x => decide (0 < x.e) && decide (x.e ≤ now)).map fun x => (x.key, x.e)
/-- The keys that have ended, by their ends. -/
def wS (S : List En) (now : Nat) : List ByteArray := (sortE ((dueS S now).map conv)).map fun k => ⟨k.1.toArray⟩

theorem wS_len (S : List En) (now : Nat) : (wS S now).length = (S.filter fun x => decide (0 < x.e) && decide (x.e ≤ now)).length := by
  unfold wS dueS
  rw [List.length_map, (sortE_perm _).length_eq, List.length_map, List.length_map]
theorem wS_mem {S : List En} {now : Nat} {k : ByteArray} : k ∈ wS S now ↔ ∃ x ∈ S, x.key = k ∧ 0 < x.e ∧ x.e ≤ now := by
  unfold wS dueS
  constructor
  · intro h
    obtain ⟨p, hp, rfl⟩ := List.mem_map.1 h
    have hp := (sortE_perm _).mem_iff.1 hp
    obtain ⟨q, hq, rfl⟩ := List.mem_map.1 hp
    obtain ⟨x, hx, rfl⟩ := List.mem_map.1 hq
    obtain ⟨h1, h2⟩ := List.mem_filter.1 hx
    simp only [Bool.and_eq_true, decide_eq_true_eq] at h2
    exact ⟨x, h1, by simp [conv], h2⟩
  · rintro ⟨x, hx, rfl, h1, h2⟩
    refine List.mem_map.2 ⟨conv (x.key, x.e), (sortE_perm _).mem_iff.2 (List.mem_map_of_mem (List.mem_map.2 ⟨x, List.mem_filter.2 ⟨hx, by simp [h1, h2]⟩, rfl⟩)), by simp [conv]⟩

theorem sortE_eq {a b : List (List UInt8 × Int)} (h : a.Perm b) : sortE a = sortE b := by
  refine List.Perm.eq_of_pairwise (le := fun x y => ¬ befB y x = true) (fun x y _ _ h1 h2 => ?_) (sortE_sorted a) (sortE_sorted b) (((sortE_perm a).trans h).trans (sortE_perm b).symm)
  rw [befB_iff] at h1 h2
  have e1 : ¬ y.2 < x.2 := fun e => h1 (.inl e)
  have e2 : ¬ x.2 < y.2 := fun e => h2 (.inl e)
  have e : x.2 = y.2 := by omega
  have l1 : ¬ y.1 < x.1 := fun k => h1 (.inr ⟨e.symm, k⟩)
  have l2 : ¬ x.1 < y.1 := fun k => h2 (.inr ⟨e, k⟩)
  exact Prod.ext (List.le_antisymm (List.not_lt.1 l1) (List.not_lt.1 l2)) e

theorem entS_ents : ∀ {E : Ec}, (∀ p ∈ E, p.1.size ≤ 1000 ∧ 0 < p.2 ∧ p.2 ≤ 4611686018427387904) → entS (entsOf E) = some (E.map conv)
  | [], _ => rfl
  | p :: E, h => by
    obtain ⟨h1, h2, h3⟩ := h p (by simp)
    have ih := entS_ents (E := E) fun q hq => h q (by simp [hq])
    show (if decide (p.1.size ≤ 1000) && (decide ((0 : Int) < (p.2 : Int)) && decide ((p.2 : Int) ≤ 4611686018427387904)) then (entS (entsOf E)).map ((p.1.data.toList, (p.2 : Int)) :: ·) else none) = _
    rw [if_pos (by simp; omega), ih]
    rfl

section
variable {H : AHeap} {c : Nat} {m : Option Nat} {E : Ec} {S : List En} {now : Nat}

theorem chk_size {k : ByteArray} (h : chk k [] = 0) : k.size ≤ 24 := by
  unfold chk at h
  split at h
  · cases h
  · split at h
    · cases h
    · rename_i h2
      have : ¬ 24 < (bl k).length := fun e => h2 (.inl e)
      have e : (bl k).length = k.size := by simp [bl]
      omega
theorem lkp_of_mem : ∀ {E : Ec}, (E.map (·.1)).Nodup → ∀ {p : ByteArray × Nat}, p ∈ E → lkp E p.1 = some p.2
  | q :: E, hn, p, hp => by
    rw [List.map_cons, List.nodup_cons] at hn
    rw [lkp]
    rcases List.mem_cons.1 hp with rfl | hp
    · rw [if_pos rfl]
    · rw [if_neg (fun e => hn.1 (by rw [← e]; exact List.mem_map_of_mem hp))]
      exact lkp_of_mem hn.2 hp
theorem end_mem {k : ByteArray} (h : endOf S k ≠ 0) : ∃ x ∈ S, x.key = k ∧ x.e = endOf S k := by
  rw [endOf_get] at h ⊢
  cases hg : getS S k with
  | none => rw [hg] at h; exact absurd rfl h
  | some x => obtain ⟨h1, h2⟩ := getS_key hg; exact ⟨x, h2, h1, rfl⟩
theorem StR.ent (r : StR H c m E S now) {p : ByteArray × Nat} (hp : p ∈ E) : ∃ x ∈ S, x.key = p.1 ∧ x.e = p.2 ∧ 0 < p.2 := by
  have h1 := lkp_of_mem r.nd hp
  have h2 := r.lk p.1
  rw [h1] at h2
  by_cases h : endOf S p.1 = 0
  · rw [if_pos h] at h2; cases h2
  · rw [if_neg h] at h2
    obtain ⟨x, hx, e1, e2⟩ := end_mem h
    have h2 : p.2 = endOf S p.1 := Option.some.inj h2
    exact ⟨x, hx, e1, by omega, by omega⟩
theorem StR.ents_ok (r : StR H c m E S now) : ∀ p ∈ E, p.1.size ≤ 1000 ∧ 0 < p.2 ∧ p.2 ≤ 4611686018427387904 := fun p hp => by
  obtain ⟨x, hx, e1, e2, e3⟩ := r.ent hp
  have h1 := r.ends x hx
  have h2 := chk_size (r.keys x hx)
  rw [e1] at h2
  exact ⟨by omega, e3, by omega⟩
theorem StR.due (r : StR H c m E S now) : ((E.map conv).filter fun k => decide (k.2 ≤ (now : Int))).Perm ((dueS S now).map conv) := by
  have e1 : (E.map conv).filter (fun k => decide (k.2 ≤ (now : Int))) = (E.filter fun p => decide (p.2 ≤ now)).map conv := by
    rw [List.filter_map]
    congr 1
    exact List.filter_congr fun p _ => by simp [conv]
  rw [e1]
  refine List.Perm.map _ ?_
  have nd1 : (E.filter fun p => decide (p.2 ≤ now)).Nodup := by
    have := r.nd
    rw [List.Nodup, List.pairwise_map] at this
    exact (List.Pairwise.filter _ (this.imp fun h e => h (by rw [e])))
  have nd2 : (dueS S now).Nodup := by
    unfold dueS
    rw [List.Nodup, List.pairwise_map]
    have hs := r.srt
    unfold Srt pl at hs
    rw [List.pairwise_map] at hs
    refine (hs.filter _).imp fun {a b} h e => ?_
    have h : cmpS a.key b.key < 0 := h
    have e : a.key = b.key := congrArg Prod.fst e
    rw [e, cmpS_self] at h
    exact absurd h (by decide)
  refine (List.perm_ext_iff_of_nodup nd1 nd2).2 fun p => ?_
  unfold dueS
  constructor
  · intro h
    obtain ⟨h1, h2⟩ := List.mem_filter.1 h
    obtain ⟨x, hx, e1, e2, e3⟩ := r.ent h1
    refine List.mem_map.2 ⟨x, List.mem_filter.2 ⟨hx, ?_⟩, by rw [e1, e2]⟩
    simp only [Bool.and_eq_true, decide_eq_true_eq]
    have := of_decide_eq_true h2
    omega
  · intro h
    obtain ⟨x, hx, rfl⟩ := List.mem_map.1 h
    obtain ⟨h1, h2⟩ := List.mem_filter.1 hx
    simp only [Bool.and_eq_true, decide_eq_true_eq] at h2
    have hg := getS_mem r.srt h1
    have he : endOf S x.key = x.e := by rw [endOf_get, hg]; rfl
    have hl := r.lk x.key
    rw [he, if_neg (by omega)] at hl
    exact List.mem_filter.2 ⟨lkp_mem hl, by simp [h2.2]⟩
theorem nodup_len : ∀ {a b : List ByteArray}, a.Nodup → (∀ x ∈ a, x ∈ b) → a.length ≤ b.length
  | [], _, _, _ => Nat.zero_le _
  | x :: a, b, hn, hs => by
    rw [List.nodup_cons] at hn
    have hx := hs x (by simp)
    have ih := nodup_len (a := a) (b := b.filter fun y => !decide (y = x)) hn.2 fun y hy => List.mem_filter.2 ⟨hs y (by simp [hy]), by
      have : ¬ y = x := fun e => hn.1 (by rw [← e]; exact hy)
      simp [this]⟩
    have h1 : (b.filter fun y => !decide (y = x)).length < b.length := List.length_filter_lt_length_iff_exists.2 ⟨x, hx, by simp⟩
    simp only [List.length_cons]
    omega
theorem StR.elen (r : StR H c m E S now) : E.length ≤ 20000 := by
  have h1 : (E.map (·.1)).length ≤ (S.map (·.key)).length := nodup_len r.nd fun k hk => by
    obtain ⟨p, hp, rfl⟩ := List.mem_map.1 hk
    obtain ⟨x, hx, e1, _⟩ := r.ent hp
    exact List.mem_map.2 ⟨x, hx, e1⟩
  have := r.len
  simp at h1
  omega

theorem q_waiting (r : StR H c m E S now) : ∃ v H', CC F.expire_Store_waiting [pt c] H = some (v, H') ∧ Own EStr H' T.string v (wS S now) ∧ (∀ b, blockOf v = some b → H.n ≤ b ∧ b < H'.n) ∧ Still H H' ∧ (wS S now = [] → v = .slice none 0 0 ∧ H' = H) := by
  have hp : prims1 F.expire_Store_waiting = some waitP := by kernel_rfl
  obtain ⟨v0, f0, _⟩ := r.md
  have f0 : H.f c = .cells [v0, .map m, .int .i64 (now : Int)] T.expire_Store true := f0
  have hw : wS S now = (sortE ((E.map conv).filter fun k => decide (k.2 ≤ (now : Int)))).map fun k => ⟨k.1.toArray⟩ := by
    unfold wS
    rw [sortE_eq r.due]
  have hlen : ((E.map conv).filter fun k => decide (k.2 ≤ (now : Int))).length = (wS S now).length := by rw [hw, List.length_map, (sortE_perm _).length_eq]
  cases hm : m with
  | none =>
    subst hm
    have hE : E = [] := r.mi
    have hw0 : wS S now = [] := by rw [hw, hE]; rfl
    refine ⟨.slice none 0 0, H, D_prim hp ?_, .inl ⟨hw0, rfl⟩, fun b h => (by cases h), Fr.refl H, fun _ => ⟨rfl, rfl⟩⟩
    unfold waitP
    simp only [f0, List.getElem?_cons_zero, List.getElem?_cons_succ, Nat.zero_add]
  | some mb =>
    subst hm
    obtain ⟨b1, b2, b3⟩ := r.mi
    have hes := entS_ents r.ents_ok
    have hel : (entsOf E).length ≤ 1000000 := by unfold entsOf; rw [List.length_map]; have := r.elen; omega
    by_cases he : ((E.map conv).filter fun k => decide (k.2 ≤ (now : Int))).isEmpty = true
    · have hw0 : wS S now = [] := List.length_eq_zero_iff.1 (by rw [← hlen, List.isEmpty_iff.1 he]; rfl)
      refine ⟨.slice none 0 0, H, D_prim hp ?_, .inl ⟨hw0, rfl⟩, fun b h => (by cases h), Fr.refl H, fun _ => ⟨rfl, rfl⟩⟩
      unfold waitP
      simp only [f0, List.getElem?_cons_zero, List.getElem?_cons_succ, Nat.zero_add, b1, hes]
      rw [if_pos hel, if_pos he]
    · have hne : wS S now ≠ [] := fun h => he (by rw [List.isEmpty_iff]; exact List.length_eq_zero_iff.1 (by rw [hlen, h]; rfl))
      obtain ⟨H1, hH1⟩ : ∃ H1, H.push (.cells (EStr.cells (wS S now)) 9 true) = H1 := ⟨_, rfl⟩
      have hcells : (sortE ((E.map conv).filter fun k => decide (k.2 ≤ (now : Int)))).map (fun k => Value.string ⟨k.1.toArray⟩) = EStr.cells (wS S now) := by
        rw [EStr_cells, hw, List.map_map]
        rfl
      have s1 : Still H H1 := by rw [← hH1]; exact (Fr.refl H).push _
      have n1 : H1.n = H.n + 1 := by rw [← hH1]; rfl
      refine ⟨.slice (some ⟨H.n, 0, none⟩) (wS S now).length (2 * (wS S now).length + 1), H1, D_prim hp ?_, ?_, fun b hb => (by cases hb; exact ⟨Nat.le_refl _, by show H.n < H1.n; omega⟩), s1, fun h => absurd h hne⟩
      · unfold waitP
        simp only [f0, List.getElem?_cons_zero, List.getElem?_cons_succ, Nat.zero_add, b1, hes]
        rw [if_pos hel, if_neg he, hcells, hlen, hH1]
      · refine .inr (.inr ⟨H.n, 0, (wS S now).length, EStr.cells (wS S now), rfl, Nat.le_refl _, by omega, by rw [← hH1]; exact push_f_eq rfl, by rw [EStr.cells_len, Nat.zero_add], ?_⟩)
        rw [List.drop_zero, List.take_of_length_le (by rw [EStr.cells_len]; exact Nat.le_refl _)]

theorem q_Waiting (r : StR H c m E S now) : CC F.expire_Store_Waiting [pt c] H = some (.int .i64 ((wS S now).length : Int), H) := by
  obtain ⟨v, H1, e, o, _, s1, _⟩ := q_waiting r
  have hl := o.rd.lenS
  refine pure_of (H' := H1) ?_ (d_expire_Store_Waiting _ H) rfl s1
  simp (disch := first | with_reducible rfl | assumption | omega | rfl | (simp only [go_sem]; first | done | omega)) only [go_sem, ↓reduceIte, reduceCtorEq, Nat.reduceEqDiff, Nat.reduceAdd, Nat.reduceSub, Nat.reduceMul, Nat.reduceDiv, Nat.reduceMod, Nat.reduceLeDiff, Nat.reduceLT, Nat.reduceBEq, Int.reduceEq, Int.reduceBEq, Int.reduceBNe, Int.reduceLT, Int.reduceLE, Int.reduceAdd, Int.reduceSub, Int.reduceNeg, Int.reduceToNat, Int.reducePow, Nat.reducePow, Int.reduceMul, Int.reduceDiv, ↓s_expire_Store_Waiting, ↓enterK_eq e, enterK_eq e, hl]
theorem wS_le (S : List En) (now : Nat) : (wS S now).length ≤ S.length := by
  rw [wS_len]
  exact List.length_filter_le _ _
theorem q_xLen (r : StR H c m E S now) : CC F.expire_Store_Len [pt c] H = some (.int .i64 ((S.length - (wS S now).length : Nat) : Int), H) := by
  have e1 := q_Len c (pl S) H r.md
  have e2 := q_Waiting r
  have h := wS_le S now
  have hlen := r.len
  have hpl : (pl S).length = S.length := by simp [pl]
  rw [hpl] at e1
  have e : ((S.length - (wS S now).length : Nat) : Int) = (S.length : Int) - ((wS S now).length : Int) := by omega
  rw [e]
  apply pure_of _ (d_expire_Store_Len _ H) rfl
  rotate_left 2
  · simp (disch := first | with_reducible rfl | assumption | omega | rfl | (simp only [go_sem]; first | done | omega)) only [go_sem, ↓reduceIte, reduceCtorEq, Nat.reduceEqDiff, Nat.reduceAdd, Nat.reduceSub, Nat.reduceMul, Nat.reduceDiv, Nat.reduceMod, Nat.reduceLeDiff, Nat.reduceLT, Nat.reduceBEq, Int.reduceEq, Int.reduceBEq, Int.reduceBNe, Int.reduceLT, Int.reduceLE, Int.reduceAdd, Int.reduceSub, Int.reduceNeg, Int.reduceToNat, Int.reducePow, Nat.reducePow, Int.reduceMul, Int.reduceDiv, ↓s_expire_Store_Len, ↓enterK_eq e1, enterK_eq e1, ↓enterK_eq e2, enterK_eq e2]
    rfl
  · (repeat (first | exact Fr.refl _ | refine Fr.push ?_ _ | refine Fr.set ?_ _ _ (by intro h; first | omega | (simp only [go_sem] at h; omega))))
end

/-! ### Sweep -/
def sweepS (S : List En) (ks : List ByteArray) : List En := ks.foldl delR S
theorem UpX.trans {H H1 H2 : AHeap} {c : Nat} (hc : ∀ b, OB H c b → b < H.n) (a : UpX H c H1) (b : UpX H1 c H2) : UpX H c H2 := by
  have n1 := a.fr.n
  refine ⟨a.fr.then b.fr fun x hx h => ?_, fun x h => ?_⟩
  · rcases a.ob x h with h | h
    · exact h
    · omega
  · rcases b.ob x h with h | h
    · exact a.ob x h
    · exact .inr (by omega)
theorem hi_blk {e : TypeId} {H : AHeap} {v v' : Value} {l : List ByteArray} (o : Own EStr H e v l) {i : Nat} (hi : i ≤ l.length) (h : slS e 1 v none (some (.int .i64 (i : Int))) none H = some v') : ∀ b, blockOf v' = some b → blockOf v = some b := by
  rcases o with ⟨rfl, rfl⟩ | ⟨rfl, ⟨b, o, s⟩, rfl, hs, hbb⟩ | ⟨b, o, c, xs, rfl, hl, hbn, hf, ho, hx⟩
  · simp only [List.length_nil, Nat.le_zero_eq] at hi
    subst hi
    have h0 : slS e 1 (.slice none 0 0) none (some (.int .i64 ((0 : Nat) : Int))) none H = some (.slice none 0 0) := rfl
    rw [h0] at h
    cases h
    exact fun b hb => hb
  · simp only at hs
    subst hs
    simp only [List.length_nil, Nat.le_zero_eq] at hi
    subst hi
    have h0 : slS e 1 (.slice (some ⟨b, o, none⟩) 0 0) none (some (.int .i64 ((0 : Nat) : Int))) none H = some (.slice (some ⟨b, o, none⟩) 0 0) := by simp [slS, lowOf, highOf, bnd]
    have h : slS e 1 (.slice (some ⟨b, o, none⟩) 0 0) none (some (.int .i64 ((0 : Nat) : Int))) none H = some v' := h
    rw [h0] at h
    cases h
    exact fun b hb => hb
  · have h0 := sl_hi (e := e) (o := o) (sz := 1) (n := l.length) (q := .i64) hf (Nat.le_trans hi hl)
    rw [h0] at h
    cases h
    exact fun b hb => hb

section
variable {H : AHeap} {c : Nat} {m : Option Nat} {E : Ec} {S : List En} {now : Nat}
theorem l_sweep {v : Value} {ks : List ByteArray} (hk : ∀ k ∈ ks, chk k [] = 0) (hkn : ks.length ≤ 4611686018427387904) : ∀ (r : List ByteArray) (i : Nat) (E : Ec) (S : List En) (H : AHeap), ks.drop i = r → i ≤ ks.length → Ok H → StR H c m E S now → Rd EStr H v ks → (∀ b, blockOf v = some b → b < H.n ∧ ¬ OB H c b) →
    ∃ E' H', (∀ K, l_expire_Store_Sweep_0 (pt c) v v (.int .i64 (ks.length : Int)) (.int .i64 (i : Int)) H (blkK [6] 1 K) = K .normal [(6, v)] H') ∧ StR H' c m E' (sweepS S r) now ∧ UpX H c H' ∧ Rd EStr H' v ks
  | [], i, E, S, H, hd, hi, ok, st, rd, hb => by
    have h : ks.length ≤ i := List.drop_eq_nil_iff.1 hd
    have hlt : ¬ (i : Int) < (ks.length : Int) := by omega
    refine ⟨E, H, fun K => ?_, st, UpX.refl H c, rd⟩
    rw [r_expire_Store_Sweep_0]
    simp (disch := first | with_reducible rfl | assumption | omega | rfl | (simp only [go_sem]; first | done | omega)) only [go_sem, ↓reduceIte, reduceCtorEq, Nat.reduceEqDiff, Nat.reduceAdd, Nat.reduceSub, Nat.reduceMul, Nat.reduceDiv, Nat.reduceMod, Nat.reduceLeDiff, Nat.reduceLT, Nat.reduceBEq, Int.reduceEq, Int.reduceBEq, Int.reduceBNe, Int.reduceLT, Int.reduceLE, Int.reduceAdd, Int.reduceSub, Int.reduceNeg, Int.reduceToNat, Int.reducePow, Nat.reducePow, Int.reduceMul, Int.reduceDiv, ↓s_expire_Store_Sweep_b0, hlt]
  | k :: r, i, E, S, H, hd, hi, ok, st, rd, hb => by
    have hlt0 : i < ks.length := by
      rcases Nat.lt_or_ge i ks.length with h | h
      · exact h
      · rw [List.drop_eq_nil_of_le h] at hd; cases hd
    have ha : ks[i] = k := by rw [List.drop_eq_getElem_cons hlt0] at hd; exact (List.cons.inj hd).1
    have hd' : ks.drop (i + 1) = r := by rw [List.drop_eq_getElem_cons hlt0] at hd; exact (List.cons.inj hd).2
    have hlt : (i : Int) < (ks.length : Int) := by omega
    obtain ⟨bb, o, ix, hbn, hcc, hbl⟩ := rd.ix (q := .i64) hlt0
    have ix : ixS 1 v (.int .i64 i) = some (.pointer (some ⟨bb, o, none⟩)) := ix
    have c0 : cellB (H.f bb) o = some (.string k) := by
      have := cutB_cell hcc (i := 0) (by decide)
      rw [ha] at this
      exact this
    obtain ⟨w, H1, v1, H2, e1, f1, l1, r2, u2⟩ := q_takeOut ok st k (hk k (by rw [← ha]; exact List.getElem_mem _))
    have ok2 : Ok H2 := u2.fr.ok ok
    have n2 := u2.fr.n
    have rd2 : Rd EStr H2 v ks := rd.keep u2.fr fun b hb' h => (hb b hb').2 h
    obtain ⟨E', H', g1, g2, g3, g4⟩ := l_sweep hk hkn r (i + 1) _ _ H2 hd' (by omega) ok2 r2 rd2 (fun b hb' => by
      obtain ⟨a1, a2⟩ := hb b hb'
      exact ⟨by omega, fun h => by
        rcases u2.ob b h with h | h
        · exact a2 h
        · omega⟩)
    refine ⟨E', H', fun K => ?_, g2, UpX.trans (fun b h => st.lt h) u2 g3, g4⟩
    have ih := g1 K
    rw [Int.natCast_add] at ih
    rw [r_expire_Store_Sweep_0]
    simp (disch := first | with_reducible rfl | assumption | omega | rfl | (simp only [go_sem]; first | done | omega)) only [go_sem, ↓reduceIte, reduceCtorEq, Nat.reduceEqDiff, Nat.reduceAdd, Nat.reduceSub, Nat.reduceMul, Nat.reduceDiv, Nat.reduceMod, Nat.reduceLeDiff, Nat.reduceLT, Nat.reduceBEq, Int.reduceEq, Int.reduceBEq, Int.reduceBNe, Int.reduceLT, Int.reduceLE, Int.reduceAdd, Int.reduceSub, Int.reduceNeg, Int.reduceToNat, Int.reducePow, Nat.reducePow, Int.reduceMul, Int.reduceDiv, ↓s_expire_Store_Sweep_b0, hlt, ix, c0, ↓enterK_eq e1, enterK_eq e1, f1, l1]
    exact ih

theorem q_xSweep (ok : Ok H) (r : StR H c m E S now) (n : Int) :
    ∃ v m' E' H', CC F.expire_Store_Sweep [pt c, .int .i64 n] H = some (.tuple #[v, .int .i64 (if n < 1 then 2 else 0)], H') ∧ Rd EStr H' v (if n < 1 then [] else (wS S now).take n.toNat) ∧ StR H' c m' E' (sweepS S (if n < 1 then [] else (wS S now).take n.toNat)) now ∧ UpX H c H' ∧
      (∀ b, blockOf v = some b → H.n ≤ b ∧ b < H'.n ∧ ¬ OB H' c b) := by
  by_cases hn : n < 1
  · rw [if_pos hn, if_pos hn]
    refine ⟨.slice none 0 0, m, E, H, ?_, .inl ⟨rfl, rfl⟩, r, UpX.refl H c, fun b h => (by cases h)⟩
    apply pure_of _ (d_expire_Store_Sweep _ _ H) rfl
    rotate_left 2
    · simp (disch := first | with_reducible rfl | assumption | omega | rfl | (simp only [go_sem]; first | done | omega)) only [go_sem, ↓reduceIte, reduceCtorEq, Nat.reduceEqDiff, Nat.reduceAdd, Nat.reduceSub, Nat.reduceMul, Nat.reduceDiv, Nat.reduceMod, Nat.reduceLeDiff, Nat.reduceLT, Nat.reduceBEq, Int.reduceEq, Int.reduceBEq, Int.reduceBNe, Int.reduceLT, Int.reduceLE, Int.reduceAdd, Int.reduceSub, Int.reduceNeg, Int.reduceToNat, Int.reducePow, Nat.reducePow, Int.reduceMul, Int.reduceDiv, ↓s_expire_Store_Sweep, hn]
      rfl
    · (repeat (first | exact Fr.refl _ | refine Fr.push ?_ _ | refine Fr.set ?_ _ _ (by intro h; first | omega | (simp only [go_sem] at h; omega))))
  rw [if_neg hn, if_neg hn]
  obtain ⟨N, rfl⟩ : ∃ N : Nat, n = (N : Int) := ⟨n.toNat, by omega⟩
  rw [Int.toNat_natCast]
  obtain ⟨v0, H1, e0, o0, hb0, s1, hnil⟩ := q_waiting r
  have hl := o0.rd.lenS
  have n1 := s1.n
  obtain ⟨I, hI⟩ : ∃ I, min N (wS S now).length = I := ⟨_, rfl⟩
  have hIl : I ≤ (wS S now).length := by omega
  have hmin : min (N : Int) ((wS S now).length : Int) = (I : Int) := by omega
  obtain ⟨v1, hs1, rd1⟩ := o0.hi (sz := 1) rfl hIl (q := .i64)
  have hs1 : slS T.string 1 v0 none (some (.int .i64 (I : Int))) none H1 = some v1 := hs1
  have hbl := hi_blk o0 hIl hs1
  have htake : (wS S now).take I = (wS S now).take N := by
    rcases Nat.le_total N (wS S now).length with h | h
    · rw [show I = N by omega]
    · rw [show I = (wS S now).length by omega, List.take_length, List.take_of_length_le h]
  rw [htake] at rd1
  have hl1 := rd1.lenS
  have hkc : ∀ k ∈ (wS S now).take N, chk k [] = 0 := fun k hk => by
    obtain ⟨x, hx, rfl, _⟩ := wS_mem.1 (List.mem_of_mem_take hk)
    exact r.keys x hx
  have hwl := wS_le S now
  have hlen := r.len
  have hcl : c < H.n := r.lt (.inl rfl)
  have hob1 : ∀ b, OB H1 c b ↔ OB H c b := fun b => ob_still hcl s1 (fun h => h)
  have r1 := r.still s1
  have htl : ((wS S now).take N).length ≤ (wS S now).length := by rw [List.length_take]; omega
  obtain ⟨E', H', g1, g2, g3, g4⟩ := l_sweep (v := v1) hkc (by omega) ((wS S now).take N) 0 E S H1 rfl (Nat.zero_le _) (s1.ok ok) r1 rd1 (fun b hb => by
    have := hb0 b (hbl b hb)
    exact ⟨this.2, fun h => by have := r.lt ((hob1 b).1 h); omega⟩)
  have u : UpX H c H' := ⟨s1.still.then g3.fr fun b _ h => (hob1 b).1 h, fun b h => by
    rcases g3.ob b h with h | h
    · exact .inl ((hob1 b).1 h)
    · exact .inr (by omega)⟩
  have g1 : ∀ K, l_expire_Store_Sweep_0 (pt c) v1 v1 (.int .i64 (((wS S now).take N).length : Int)) (.int .i64 0) H1 (blkK [6] 1 K) = K .normal [(6, v1)] H' := g1
  have run : s_expire_Store_Sweep guardK condL shareL Try.prog CC l_expire_Store_Sweep_0 (pt c) (.int .i64 (N : Int)) H (endK Try.prog [.tmp 4, .tmp 5]) = some (.tuple #[v1, .int .i64 0], H') := by
    simp (disch := first | with_reducible rfl | assumption | omega | rfl | (simp only [go_sem]; first | done | omega)) only [go_sem, ↓reduceIte, reduceCtorEq, Nat.reduceEqDiff, Nat.reduceAdd, Nat.reduceSub, Nat.reduceMul, Nat.reduceDiv, Nat.reduceMod, Nat.reduceLeDiff, Nat.reduceLT, Nat.reduceBEq, Int.reduceEq, Int.reduceBEq, Int.reduceBNe, Int.reduceLT, Int.reduceLE, Int.reduceAdd, Int.reduceSub, Int.reduceNeg, Int.reduceToNat, Int.reducePow, Nat.reducePow, Int.reduceMul, Int.reduceDiv, ↓s_expire_Store_Sweep, hn, ↓enterK_eq e0, enterK_eq e0, hl, hmin, hs1, hl1, g1]
  have hbk : ∀ b, blockOf v1 = some b → H.n ≤ b ∧ b < H'.n ∧ ¬ OB H' c b := fun b hb => by
    have h := hb0 b (hbl b hb)
    have := g3.fr.n
    exact ⟨h.1, by omega, fun hh => by
      rcases g3.ob b hh with hh | hh
      · have := r.lt ((hob1 b).1 hh); omega
      · omega⟩
  by_cases hnone : (wS S now).take N = []
  · -- nothing has ended: the call is forgotten
    have hw0 : wS S now = [] := by
      have h := congrArg List.length hnone
      rw [List.length_take] at h
      have h : min N (wS S now).length = 0 := h
      exact List.length_eq_zero_iff.1 (by omega)
    obtain ⟨hv0, _⟩ := hnil hw0
    subst hv0
    have hI0 : I = 0 := by rw [hw0] at hI; simpa using hI.symm
    have hv1 : v1 = .slice none 0 0 := by
      rw [hI0] at hs1
      have h0 : slS T.string 1 (.slice none 0 0) none (some (.int .i64 ((0 : Nat) : Int))) none H1 = some (.slice none 0 0) := rfl
      rw [h0] at hs1
      cases hs1
      rfl
    subst hv1
    obtain ⟨m2, E2, H3, ht, r3, u3⟩ := tidyX (v := .tuple #[.slice none 0 0, .int .i64 0]) ok r g2 u
    exact ⟨.slice none 0 0, m2, E2, H3, (d_expire_Store_Sweep _ _ H run).trans (congrArg some ht), .inl ⟨hnone, rfl⟩, r3, u3, fun b h => (by cases h)⟩
  · have hv1 : ∃ b o n code, v1 = .slice (some ⟨b, o, none⟩) n code := by
      rcases rd1 with ⟨h, _⟩ | ⟨h, _⟩ | ⟨b, o, code, h, _⟩
      · exact absurd h hnone
      · exact absurd h hnone
      · exact ⟨_, _, _, _, h⟩
    obtain ⟨b, o, nn, code, rfl⟩ := hv1
    exact ⟨_, m, E', H', (d_expire_Store_Sweep _ _ H run).trans (congrArg some (tidy_mem rfl)), g4, g2, u, hbk⟩
end

end Go.Proofs.Ythjjkinpbpealaa

/-
  Chapter 45: a store: the keys that are alive.
  Conditions: none. By an AI agent.
-/
set_option maxRecDepth 10000
set_option linter.unusedSimpArgs false
set_option linter.unusedVariables false
namespace Go.Proofs.Ythjjkinpbpealaa
open Go Eng
attribute [local congr] bareK_congr' bothK_congr' quietK_congr'

section
variable {H : AHeap} {c : Nat} {m : Option Nat} {E : Ec} {S : List En} {now : Nat}

def pB (S : List En) (now : Nat) (a : Pr) : Bool := endB S now a.key
abbrev clo (bx : Nat) : Value := .func (.func F.expire_Store_Alive_1) #[] #[.pointer (some ⟨bx, 0, none⟩)]

theorem q_alive1 (ok : Ok H) (r : StR H c m E S now) {bx : Nat} (hx : H.f bx = .cells [pt c] T.p_expire_Store true) (hb : bx < H.n) (a : Pr) : CC F.expire_Store_Alive_1 [.agg #[.string a.key, .string a.value], pt bx] H = some (.bool (pB S now a), H) := by
  obtain ⟨H1, hH1⟩ : ∃ H1, H.push (.cells [.string a.key, .string a.value] T.api_Pair true) = H1 := ⟨_, rfl⟩
  have s1 : Still H H1 := by rw [← hH1]; exact (Fr.refl H).push _
  have f1 : H1.f H.n = .cells [.string a.key, .string a.value] T.api_Pair true := by rw [← hH1]; exact push_f_eq rfl
  have fx : H1.f bx = .cells [pt c] T.p_expire_Store true := by rw [s1.f hb (fun h => h)]; exact hx
  have e := q_ended (r.still s1) a.key
  unfold pB
  refine pure_of (H' := H1) ?_ (d_expire_Store_Alive_1 _ _ H) rfl s1
  simp (disch := first | with_reducible rfl | assumption | omega | rfl | (simp only [go_sem]; first | done | omega)) only [go_sem, ↓reduceIte, reduceCtorEq, Nat.reduceEqDiff, Nat.reduceAdd, Nat.reduceSub, Nat.reduceMul, Nat.reduceDiv, Nat.reduceMod, Nat.reduceLeDiff, Nat.reduceLT, Nat.reduceBEq, Int.reduceEq, Int.reduceBEq, Int.reduceBNe, Int.reduceLT, Int.reduceLE, Int.reduceAdd, Int.reduceSub, Int.reduceNeg, Int.reduceToNat, Int.reducePow, Nat.reducePow, Int.reduceMul, Int.reduceDiv, ↓s_expire_Store_Alive_1, hH1, fx, f1, ↓enterK_eq e, enterK_eq e]

def idxP (p : Pr → Bool) : List Pr → Nat → Int
  | [], _ => -1
  | a :: l, i => if p a then (i : Int) else idxP p l (i + 1)
theorem drop_pr {l m : List Pr} {a : Pr} {i : Nat} (h : l.drop i = a :: m) : ∃ hi : i < l.length, l[i] = a ∧ l.drop (i + 1) = m := by
  have hi : i < l.length := by
    by_cases hi : i < l.length
    · exact hi
    · rw [List.drop_eq_nil_of_le (by omega)] at h; cases h
  rw [List.drop_eq_getElem_cons hi] at h
  cases h
  exact ⟨hi, rfl, rfl⟩
theorem l_indexP (ok : Ok H) (r : StR H c m E S now) {bx : Nat} (hx : H.f bx = .cells [pt c] T.p_expire_Store true) (hb : bx < H.n) {v : Value} {l : List Pr} (rd : Rd EPr H v l) (hl : l.length ≤ 20000) (K : K) : ∀ (q : List Pr) (i : Nat), l.drop i = q → i ≤ l.length →
    l_slices_IndexFunc_Pair_0 v (clo bx) (.int .i64 (l.length : Int)) (.int .i64 (i : Int)) H (blkK [] 0 (seqK (fun _ h2 => K .ret [(4, .int .i64 (-1))] h2) K)) = K .ret [(4, .int .i64 (idxP (pB S now) q i))] H
  | [], i, hd, hi => by
    have h : l.length ≤ i := List.drop_eq_nil_iff.1 hd
    have hlt : ¬ (i : Int) < (l.length : Int) := by omega
    rw [r_slices_IndexFunc_Pair_0]
    simp (disch := first | with_reducible rfl | assumption | omega | rfl | (simp only [go_sem]; first | done | omega)) only [go_sem, ↓reduceIte, reduceCtorEq, Nat.reduceEqDiff, Nat.reduceAdd, Nat.reduceSub, Nat.reduceMul, Nat.reduceDiv, Nat.reduceMod, Nat.reduceLeDiff, Nat.reduceLT, Nat.reduceBEq, Int.reduceEq, Int.reduceBEq, Int.reduceBNe, Int.reduceLT, Int.reduceLE, Int.reduceAdd, Int.reduceSub, Int.reduceNeg, Int.reduceToNat, Int.reducePow, Nat.reducePow, Int.reduceMul, Int.reduceDiv, ↓s_slices_IndexFunc_Pair_b0, hlt, idxP]
  | a :: q, i, hd, hi => by
    obtain ⟨h, ha, hd'⟩ := drop_pr hd
    have hlt : (i : Int) < (l.length : Int) := by omega
    obtain ⟨bb, o, ix, hbn, hcc, hbl⟩ := rd.ix (q := .i64) h
    have ix : ixS 2 v (.int .i64 i) = some (.pointer (some ⟨bb, o, none⟩)) := ix
    rw [ha] at hcc
    have hcc : cutB (H.f bb) o 2 = some [.string a.key, .string a.value] := hcc
    have e := q_alive1 ok r hx hb a
    rw [r_slices_IndexFunc_Pair_0, idxP]
    cases hp : pB S now a with
    | true =>
      rw [hp] at e
      rw [if_pos rfl]
      simp (disch := first | with_reducible rfl | assumption | omega | rfl | (simp only [go_sem]; first | done | omega)) only [go_sem, ↓reduceIte, reduceCtorEq, Nat.reduceEqDiff, Nat.reduceAdd, Nat.reduceSub, Nat.reduceMul, Nat.reduceDiv, Nat.reduceMod, Nat.reduceLeDiff, Nat.reduceLT, Nat.reduceBEq, Int.reduceEq, Int.reduceBEq, Int.reduceBNe, Int.reduceLT, Int.reduceLE, Int.reduceAdd, Int.reduceSub, Int.reduceNeg, Int.reduceToNat, Int.reducePow, Nat.reducePow, Int.reduceMul, Int.reduceDiv, ↓s_slices_IndexFunc_Pair_b0, hlt, ix, hcc, c_expire_Store_Alive_1, ↓enterK_eq e, enterK_eq e]
    | false =>
      rw [hp] at e
      rw [if_neg (by decide)]
      have ih := l_indexP ok r hx hb rd hl K q (i + 1) hd' (by omega)
      rw [Int.natCast_add] at ih
      simp (disch := first | with_reducible rfl | assumption | omega | rfl | (simp only [go_sem]; first | done | omega)) only [go_sem, ↓reduceIte, reduceCtorEq, Nat.reduceEqDiff, Nat.reduceAdd, Nat.reduceSub, Nat.reduceMul, Nat.reduceDiv, Nat.reduceMod, Nat.reduceLeDiff, Nat.reduceLT, Nat.reduceBEq, Int.reduceEq, Int.reduceBEq, Int.reduceBNe, Int.reduceLT, Int.reduceLE, Int.reduceAdd, Int.reduceSub, Int.reduceNeg, Int.reduceToNat, Int.reducePow, Nat.reducePow, Int.reduceMul, Int.reduceDiv, ↓s_slices_IndexFunc_Pair_b0, hlt, ix, hcc, c_expire_Store_Alive_1, ↓enterK_eq e, enterK_eq e]
      exact ih
theorem q_indexP (ok : Ok H) (r : StR H c m E S now) {bx : Nat} (hx : H.f bx = .cells [pt c] T.p_expire_Store true) (hb : bx < H.n) {v : Value} {l : List Pr} (rd : Rd EPr H v l) (hl : l.length ≤ 20000) : CC F.slices_IndexFunc_Pair [v, clo bx] H = some (.int .i64 (idxP (pB S now) l 0), H) := by
  have hloop := fun K => l_indexP ok r hx hb rd hl K l 0 rfl (Nat.zero_le _)
  have hloop : l_slices_IndexFunc_Pair_0 v (clo bx) (.int .i64 (l.length : Int)) (.int .i64 0) H (blkK [] 0 (seqK (fun _ h2 => some (.int .i64 (-1), h2)) (endK Try.prog [.tmp 4]))) = some (.int .i64 (idxP (pB S now) l 0), H) := hloop (endK Try.prog [.tmp 4])
  have hlen := rd.lenS
  apply pure_of _ (d_slices_IndexFunc_Pair _ _ H) rfl
  rotate_left 2
  · simp (disch := first | with_reducible rfl | assumption | omega | rfl | (simp only [go_sem]; first | done | omega)) only [go_sem, ↓reduceIte, reduceCtorEq, Nat.reduceEqDiff, Nat.reduceAdd, Nat.reduceSub, Nat.reduceMul, Nat.reduceDiv, Nat.reduceMod, Nat.reduceLeDiff, Nat.reduceLT, Nat.reduceBEq, Int.reduceEq, Int.reduceBEq, Int.reduceBNe, Int.reduceLT, Int.reduceLE, Int.reduceAdd, Int.reduceSub, Int.reduceNeg, Int.reduceToNat, Int.reducePow, Nat.reducePow, Int.reduceMul, Int.reduceDiv, ↓s_slices_IndexFunc_Pair, hlen]
    exact hloop
  · (repeat (first | exact Fr.refl _ | refine Fr.push ?_ _ | refine Fr.set ?_ _ _ (by intro h; first | omega | (simp only [go_sem] at h; omega))))
theorem idxP_spec (p : Pr → Bool) : ∀ (l : List Pr) (i : Nat), (idxP p l i = -1 ∧ l.filter (fun a => !p a) = l) ∨ ∃ j, idxP p l i = ((i + j : Nat) : Int) ∧ j < l.length ∧ (l.take (j + 1)).filter (fun a => !p a) = l.take j
  | [], i => .inl ⟨rfl, rfl⟩
  | a :: l, i => by
    rw [idxP]
    cases hp : p a with
    | true => exact .inr ⟨0, by simp, by simp, by simp [hp]⟩
    | false =>
      rw [if_neg (by decide)]
      rcases idxP_spec p l (i + 1) with ⟨h1, h2⟩ | ⟨j, h1, h2, h3⟩
      · exact .inl ⟨h1, by rw [List.filter_cons, hp]; simp [h2]⟩
      · refine .inr ⟨j + 1, by rw [h1]; congr 1; omega, by simp; omega, ?_⟩
        rw [List.take_succ_cons, List.filter_cons, hp, List.take_succ_cons, ← h3]
        simp

theorem l_delP {bx : Nat} {v : Value} {l : List Pr} (hl : l.length ≤ 20000) : ∀ (q : List Pr) (i j : Nat) (cur : List Pr) (H : AHeap), l.drop j = q → j ≤ l.length → i ≤ j → Ok H → StR H c m E S now → H.f bx = .cells [pt c] T.p_expire_Store true → bx < H.n →
    Own EPr H T.api_Pair v cur → cur.length = l.length → cur.take i = (l.take j).filter (fun a => !pB S now a) → cur.drop j = l.drop j → (∀ b, blockOf v = some b → b < H.n ∧ b ≠ bx ∧ ¬ OB H c b) →
    ∃ (i' : Nat) (cur' : List Pr) (H' : AHeap), (∀ K, l_slices_DeleteFunc_Pair_0 v (clo bx) (.int .i64 (i : Int)) (.int .i64 (j : Int)) H (blkK [0, 5] 0 K) = K .normal [(0, v), (5, .int .i64 (i' : Int))] H') ∧ Own EPr H' T.api_Pair v cur' ∧ cur'.length = l.length ∧ i' ≤ l.length ∧ i' ≤ i + q.length ∧
      cur'.take i' = l.filter (fun a => !pB S now a) ∧ Fr (OnlyOf v) H H'
  | [], i, j, cur, H, hd, hj, hij, ok, r, hx, hb, ow, hcl, h1, h2, hv => by
    have h : l.length ≤ j := List.drop_eq_nil_iff.1 hd
    have hlt : ¬ (j : Int) < (l.length : Int) := by omega
    have hlen := ow.rd.lenS
    rw [hcl] at hlen
    refine ⟨i, cur, H, fun K => ?_, ow, hcl, by omega, by simp, ?_, Fr.refl H⟩
    · rw [r_slices_DeleteFunc_Pair_0]
      simp (disch := first | with_reducible rfl | assumption | omega | rfl | (simp only [go_sem]; first | done | omega)) only [go_sem, ↓reduceIte, reduceCtorEq, Nat.reduceEqDiff, Nat.reduceAdd, Nat.reduceSub, Nat.reduceMul, Nat.reduceDiv, Nat.reduceMod, Nat.reduceLeDiff, Nat.reduceLT, Nat.reduceBEq, Int.reduceEq, Int.reduceBEq, Int.reduceBNe, Int.reduceLT, Int.reduceLE, Int.reduceAdd, Int.reduceSub, Int.reduceNeg, Int.reduceToNat, Int.reducePow, Nat.reducePow, Int.reduceMul, Int.reduceDiv, ↓s_slices_DeleteFunc_Pair_b0, hlen, hlt]
    · rw [h1, List.take_of_length_le h]
  | a :: q, i, j, cur, H, hd, hj, hij, ok, r, hx, hb, ow, hcl, h1, h2, hv => by
    obtain ⟨h, ha, hd'⟩ := drop_pr hd
    have hlt : (j : Int) < (l.length : Int) := by omega
    have hlen := ow.rd.lenS
    rw [hcl] at hlen
    have hjc : j < cur.length := by omega
    obtain ⟨bb, o, ix, hbn, hcc, hbl⟩ := ow.rd.ix (q := .i64) hjc
    have ix : ixS 2 v (.int .i64 j) = some (.pointer (some ⟨bb, o, none⟩)) := ix
    have hca : cur[j] = a := by
      have h0 : cur[j]? = l[j]? := by
        have := congrArg (fun z => z[0]?) h2
        simpa using this
      rw [List.getElem?_eq_getElem hjc, List.getElem?_eq_getElem h] at h0
      exact (Option.some.inj h0).trans ha
    rw [hca] at hcc
    have hcc : cutB (H.f bb) o 2 = some [.string a.key, .string a.value] := hcc
    obtain ⟨H1, hH1⟩ : ∃ H1, H.push (.cells [.string (mk []), .string (mk [])] T.api_Pair true) = H1 := ⟨_, rfl⟩
    obtain ⟨H2, hH2⟩ : ∃ H2, H1.set H.n (.cells [.string a.key, .string a.value] T.api_Pair true) = H2 := ⟨_, rfl⟩
    have f1 : H1.f H.n = .cells [.string (mk []), .string (mk [])] T.api_Pair true := by rw [← hH1]; exact push_f_eq rfl
    have f2 : H2.f H.n = .cells [.string a.key, .string a.value] T.api_Pair true := by rw [← hH2]; exact set_f_eq
    have n1 : H1.n = H.n + 1 := by rw [← hH1]; rfl
    have n2 : H2.n = H.n + 1 := by rw [← hH2]; exact n1
    have s2 : Still H H2 := by rw [← hH2, ← hH1]; exact ((Fr.refl H).push _).set _ _ fun h => absurd h (Nat.lt_irrefl _)
    have r2 := r.still s2
    have ok2 : Ok H2 := s2.ok ok
    have hx2 : H2.f bx = .cells [pt c] T.p_expire_Store true := by rw [s2.f hb (fun h => h)]; exact hx
    have ow2 := ow.still s2
    have e := q_alive1 ok2 r2 hx2 (by omega) a
    have hcH : c < H.n := r.lt (.inl rfl)
    have hv2 : ∀ b, blockOf v = some b → b < H2.n ∧ b ≠ bx ∧ ¬ OB H2 c b := fun b hb' => by
      obtain ⟨a1, a2, a3⟩ := hv b hb'
      exact ⟨by omega, a2, fun h => a3 ((ob_still hcH s2 (fun h => h)).1 h)⟩
    have htk : l.take (j + 1) = l.take j ++ [a] := by rw [List.take_succ_eq_append_getElem h, ha]
    cases hp : pB S now a with
    | true =>
      rw [hp] at e
      have h1' : cur.take i = (l.take (j + 1)).filter (fun a => !pB S now a) := by rw [htk, List.filter_append, h1]; simp [hp]
      have h2' : cur.drop (j + 1) = l.drop (j + 1) := by rw [← List.drop_drop, ← List.drop_drop, h2]
      obtain ⟨i', cur', H', g1, g2, g3, g4, g5, g6, g7⟩ := l_delP hl q i (j + 1) cur H2 hd' (by omega) (by omega) ok2 r2 hx2 (by omega) ow2 hcl h1' h2' hv2
      refine ⟨i', cur', H', fun K => ?_, g2, g3, g4, by simp; omega, g6, s2.still.trans g7⟩
      have ih := g1 K
      rw [Int.natCast_add] at ih
      rw [r_slices_DeleteFunc_Pair_0]
      simp (disch := first | with_reducible rfl | assumption | omega | rfl | (simp only [go_sem]; first | done | omega)) only [go_sem, ↓reduceIte, reduceCtorEq, Nat.reduceEqDiff, Nat.reduceAdd, Nat.reduceSub, Nat.reduceMul, Nat.reduceDiv, Nat.reduceMod, Nat.reduceLeDiff, Nat.reduceLT, Nat.reduceBEq, Int.reduceEq, Int.reduceBEq, Int.reduceBNe, Int.reduceLT, Int.reduceLE, Int.reduceAdd, Int.reduceSub, Int.reduceNeg, Int.reduceToNat, Int.reducePow, Nat.reducePow, Int.reduceMul, Int.reduceDiv, ↓s_slices_DeleteFunc_Pair_b0, hlen, hlt, ix, hcc, hH1, f1, hH2, f2, c_expire_Store_Alive_1, ↓enterK_eq e, enterK_eq e, Bool.not_true]
      exact ih
    | false =>
      rw [hp] at e
      have hic : i < cur.length := by omega
      obtain ⟨b3, o3, H3, ix3, hw3, ow3, hbv3, hb3, hn3, fr3, hver3⟩ := Own.write ow2 hic a
      obtain ⟨a1, a2, a3⟩ := hv2 b3 hbv3
      have r3 : StR H3 c m E S now := r2.keep fr3 fun b _ h hh => a3 (by rw [← h]; exact hh)
      have ok3 : Ok H3 := fr3.ok ok2
      have hx3 : H3.f bx = .cells [pt c] T.p_expire_Store true := by rw [fr3.f (by omega) (fun h => a2 h.symm)]; exact hx2
      have h1' : (cur.set i a).take (i + 1) = (l.take (j + 1)).filter (fun a => !pB S now a) := by
        rw [htk, List.filter_append, ← h1, List.take_succ_eq_append_getElem (by simpa using hic), List.take_set_of_le (Nat.le_refl i)]
        simp [hp]
      have h2' : (cur.set i a).drop (j + 1) = l.drop (j + 1) := by
        rw [List.drop_set_of_lt (by omega), ← List.drop_drop, ← List.drop_drop, h2]
      have hv3 : ∀ b, blockOf v = some b → b < H3.n ∧ b ≠ bx ∧ ¬ OB H3 c b := fun b hb' => by
        obtain ⟨q1, q2, q3⟩ := hv2 b hb'
        have hcb : ¬ c = b3 := fun h => a3 (h ▸ .inl rfl)
        exact ⟨by omega, q2, fun h => q3 ((ob_still (by omega) fr3 hcb).1 h)⟩
      obtain ⟨i', cur', H', g1, g2, g3, g4, g5, g6, g7⟩ := l_delP hl q (i + 1) (j + 1) (cur.set i a) H3 hd' (by omega) (by omega) ok3 r3 hx3 (by omega) ow3 (by rw [List.length_set]; exact hcl) h1' h2' hv3
      have frv : Fr (OnlyOf v) H2 H3 := fr3.mono fun x _ h => by unfold OnlyOf; rw [h]; exact hbv3
      refine ⟨i', cur', H', fun K => ?_, g2, g3, g4, by simp; omega, g6, s2.still.trans (frv.trans g7)⟩
      have ih := g1 K
      rw [Int.natCast_add, Int.natCast_add] at ih
      rw [r_slices_DeleteFunc_Pair_0]
      simp (disch := first | with_reducible rfl | assumption | omega | rfl | (simp only [go_sem]; first | done | omega)) only [go_sem, ↓reduceIte, reduceCtorEq, Nat.reduceEqDiff, Nat.reduceAdd, Nat.reduceSub, Nat.reduceMul, Nat.reduceDiv, Nat.reduceMod, Nat.reduceLeDiff, Nat.reduceLT, Nat.reduceBEq, Int.reduceEq, Int.reduceBEq, Int.reduceBNe, Int.reduceLT, Int.reduceLE, Int.reduceAdd, Int.reduceSub, Int.reduceNeg, Int.reduceToNat, Int.reducePow, Nat.reducePow, Int.reduceMul, Int.reduceDiv, ↓s_slices_DeleteFunc_Pair_b0, hlen, hlt, ix, hcc, hH1, f1, hH2, f2, c_expire_Store_Alive_1, ↓enterK_eq e, enterK_eq e, Bool.not_false, ix3, hw3]
      exact ih

theorem clearP {b o n c : Nat} {H : AHeap} (hn : n ≠ 0) : xclear Try.prog [T.sl_api_Pair] (.slice (some ⟨b, o, none⟩) n c) H = (setB H b (wrL (H.f b) o (zeros [.string (mk []), .string (mk [])] n))).map fun H' => (.tuple #[], H') := by
  have h : Try.prog.underlying T.sl_api_Pair = some (.slice T.api_Pair) := Try.underlying24
  have hz : zrow Try.prog T.api_Pair = some [.string (mk []), .string (mk [])] := by kernel_rfl
  unfold xclear
  simp only [h, hn, if_false, hz, Option.bind_some, stL_b]
theorem zeros_len (n : Nat) : (zeros [.string (mk []), .string (mk [])] n).length = n * 2 := by
  induction n with
  | zero => rfl
  | succ n ih => simp only [zeros] at ih ⊢; simp [ih]; omega
theorem zeros_one (n : Nat) : (zeros [.string (mk []), .string (mk [])] n).all Eng.one = true := by
  induction n with
  | zero => rfl
  | succ n ih => simp only [zeros] at ih ⊢; simp [ih, Eng.one]

/-- The pairs that are alive. -/
def aliveS (S : List En) (now : Nat) : List Pr := (pl S).filter fun a => !pB S now a

theorem q_xAlive (ok : Ok H) (r : StR H c m E S now) : ∃ v H', CC F.expire_Store_Alive [pt c] H = some (v, H') ∧ Own EPr H' T.api_Pair v (aliveS S now) ∧ Still H H' ∧ ∀ b, blockOf v = some b → H.n ≤ b ∧ b < H'.n := by
  have hcH : c < H.n := r.lt (.inl rfl)
  have hlen := r.len
  have hpl : (pl S).length ≤ 20000 := by simpa [pl] using hlen
  obtain ⟨H1, hH1⟩ : ∃ H1, H.push (.cells [pt c] T.p_expire_Store true) = H1 := ⟨_, rfl⟩
  have s1 : Still H H1 := by rw [← hH1]; exact (Fr.refl H).push _
  have n1 : H1.n = H.n + 1 := by rw [← hH1]; rfl
  have fx1 : H1.f H.n = .cells [pt c] T.p_expire_Store true := by rw [← hH1]; exact push_f_eq rfl
  have r1 := r.still s1
  obtain ⟨v, H2, e2, ow, s2, new2⟩ := q_Pairs c (pl S) H1 r1.md (by omega)
  have n2 := s2.n
  have r2 := r1.still s2
  have ok2 : Ok H2 := s2.ok (s1.ok ok)
  have fx2 : H2.f H.n = .cells [pt c] T.p_expire_Store true := by rw [s2.f (by omega) (fun h => h)]; exact fx1
  have e3 := q_indexP ok2 r2 fx2 (by omega) ow.rd hpl
  have s12 : Still H H2 := s1.then s2 fun _ _ h => h
  have hvb : ∀ b, blockOf v = some b → H1.n ≤ b ∧ b < H2.n := fun b hb => ⟨new2 b hb, ow.blk hb⟩
  have fin : ∀ {v' : Value} {H' : AHeap}, Own EPr H' T.api_Pair v' (aliveS S now) → Still H H' → (∀ b, blockOf v' = some b → H.n ≤ b) → s_expire_Store_Alive guardK condL shareL Try.prog CC (pt c) H (endK Try.prog [.tmp 2]) = some (v', H') →
      ∃ v H', CC F.expire_Store_Alive [pt c] H = some (v, H') ∧ Own EPr H' T.api_Pair v (aliveS S now) ∧ Still H H' ∧ ∀ b, blockOf v = some b → H.n ≤ b ∧ b < H'.n := fun {v' H'} o s nb run => by
    obtain ⟨H'', h1, h2, h3, h4⟩ := own_tidied o s nb (d_expire_Store_Alive _ H run)
    exact ⟨v', H'', h1, h2, h3, fun b hb => ⟨nb b hb, h2.blk hb⟩⟩
  rcases idxP_spec (pB S now) (pl S) 0 with ⟨hi, hf⟩ | ⟨j, hi, hj, hf⟩
  · rw [hi] at e3
    have e4 : CC F.slices_DeleteFunc_Pair [v, clo H.n] H2 = some (v, H2) := by
      have run : s_slices_DeleteFunc_Pair guardK condL shareL Try.prog CC l_slices_DeleteFunc_Pair_0 v (clo H.n) H2 (endK Try.prog [.tmp 4]) = some (v, H2) := by
        simp (disch := first | with_reducible rfl | assumption | omega | rfl | (simp only [go_sem]; first | done | omega)) only [go_sem, ↓reduceIte, reduceCtorEq, Nat.reduceEqDiff, Nat.reduceAdd, Nat.reduceSub, Nat.reduceMul, Nat.reduceDiv, Nat.reduceMod, Nat.reduceLeDiff, Nat.reduceLT, Nat.reduceBEq, Int.reduceEq, Int.reduceBEq, Int.reduceBNe, Int.reduceLT, Int.reduceLE, Int.reduceAdd, Int.reduceSub, Int.reduceNeg, Int.reduceToNat, Int.reducePow, Nat.reducePow, Int.reduceMul, Int.reduceDiv, ↓s_slices_DeleteFunc_Pair, ↓enterK_eq e3, enterK_eq e3]
      have h := d_slices_DeleteFunc_Pair _ _ H2 run
      have ht : tidy H2 (v, H2) = (v, H2) := by unfold tidy; split <;> rfl
      rw [ht] at h
      exact h
    have ho : Own EPr H2 T.api_Pair v (aliveS S now) := by unfold aliveS; rw [hf]; exact ow
    refine fin ho s12 (fun b hb => by have := hvb b hb; omega) ?_
    simp (disch := first | with_reducible rfl | assumption | omega | rfl | (simp only [go_sem]; first | done | omega)) only [go_sem, ↓reduceIte, reduceCtorEq, Nat.reduceEqDiff, Nat.reduceAdd, Nat.reduceSub, Nat.reduceMul, Nat.reduceDiv, Nat.reduceMod, Nat.reduceLeDiff, Nat.reduceLT, Nat.reduceBEq, Int.reduceEq, Int.reduceBEq, Int.reduceBNe, Int.reduceLT, Int.reduceLE, Int.reduceAdd, Int.reduceSub, Int.reduceNeg, Int.reduceToNat, Int.reducePow, Nat.reducePow, Int.reduceMul, Int.reduceDiv, ↓s_expire_Store_Alive, hH1, fx1, ↓enterK_eq e2, enterK_eq e2, fx2, ↓enterK_eq e4, enterK_eq e4]
  · have hi : idxP (pB S now) (pl S) 0 = (j : Int) := by rw [hi]; congr 1; omega
    rw [hi] at e3
    have hf' : (pl S).take j = ((pl S).take (j + 1)).filter (fun a => !pB S now a) := hf.symm
    obtain ⟨i', cur', H3, g1, g2, g3, g4, g5, g6, g7⟩ := l_delP (bx := H.n) (v := v) hpl ((pl S).drop (j + 1)) j (j + 1) (pl S) H2 rfl (by omega) (by omega) ok2 r2 fx2 (by omega) ow rfl hf' rfl (fun b hb => by
      have := hvb b hb
      exact ⟨this.2, by omega, fun h => by
        have := r1.lt ((ob_still (by omega) s2 (fun h => h)).1 h)
        omega⟩)
    have n3 := g7.n
    have g1 : ∀ K, l_slices_DeleteFunc_Pair_0 v (clo H.n) (.int .i64 (j : Int)) (.int .i64 ((j : Int) + 1)) H2 (blkK [0, 5] 0 K) = K .normal [(0, v), (5, .int .i64 (i' : Int))] H3 := g1
    have hlt : i' < (pl S).length := by
      rw [List.length_drop] at g5
      omega
    rcases g2 with ⟨h, _⟩ | ⟨h, _⟩ | ⟨b, o, cc, xs, hv, hlc, hbn, hff, ho, hx⟩
    · rw [h] at g3; simp at g3; omega
    · rw [h] at g3; simp at g3; omega
    · have hw : EPr.w = 2 := rfl
      rw [hw] at ho hx
      rw [g3] at hv hlc hx
      have hmul : (pl S).length * 2 ≤ cc * 2 := Nat.mul_le_mul_right _ hlc
      have hvb' := hvb b (by rw [hv]; rfl)
      have q1 : slS T.api_Pair 2 v (some (.int .i64 (i' : Int))) none none H3 = some (.slice (some ⟨b, o + i' * 2, none⟩) ((pl S).length - i') (2 * (cc - i') + 1)) := by rw [hv]; exact sl_lo hff (by omega) hlc
      obtain ⟨zs, hzs⟩ : ∃ zs, zeros [.string (mk []), .string (mk [])] ((pl S).length - i') = zs := ⟨_, rfl⟩
      have hzl : zs.length = ((pl S).length - i') * 2 := by rw [← hzs]; exact zeros_len _
      have hz1 : zs.all Eng.one = true := by rw [← hzs]; exact zeros_one _
      obtain ⟨H4, hH4⟩ : ∃ H4, H3.set b (.cells (spl xs (o + i' * 2) zs) T.api_Pair true) = H4 := ⟨_, rfl⟩
      have q2 : xclear Try.prog [T.sl_api_Pair] (.slice (some ⟨b, o + i' * 2, none⟩) ((pl S).length - i') (2 * (cc - i') + 1)) H3 = some (.tuple #[], H4) := by
        rw [clearP (by omega), hzs, hff, wrL_c (by rw [hzl, Nat.sub_mul]; omega) hz1, setB_s, ← hH4]
        rfl
      have f4 : H4.f b = .cells (spl xs (o + i' * 2) zs) T.api_Pair true := by rw [← hH4]; exact set_f_eq
      have q3 : slS T.api_Pair 2 v none (some (.int .i64 (i' : Int))) none H4 = some (.slice (some ⟨b, o, none⟩) i' (2 * cc + 1)) := by rw [hv]; exact sl_hi f4 (by omega)
      have hfl : (aliveS S now).length = i' := by
        have := congrArg List.length g6
        rw [List.length_take, g3] at this
        unfold aliveS
        omega
      have ow4 : Own EPr H4 T.api_Pair (.slice (some ⟨b, o, none⟩) i' (2 * cc + 1)) (aliveS S now) := by
        refine .inr (.inr ⟨b, o, cc, _, by rw [hfl], by omega, by rw [← hH4]; exact hbn, f4, by rw [spl_length, hw, ho], ?_⟩)
        rw [hfl, hw]
        have hcur : EPr.cells (aliveS S now) = (EPr.cells cur').take (i' * 2) := by
          have := EPr.cells_take cur' i'
          rw [hw] at this
          rw [this, g6]
          rfl
        rw [hcur, ← hx, List.take_take, Nat.min_eq_left (by omega)]
        apply List.ext_getElem?
        intro t
        by_cases ht : t < i' * 2
        · rw [List.getElem?_take_of_lt ht, List.getElem?_take_of_lt ht, List.getElem?_drop, List.getElem?_drop, spl_get _ _ _ _ (by rw [hzl, Nat.sub_mul]; omega), if_neg (by omega)]
        · rw [List.getElem?_eq_none (by simp only [List.length_take]; omega), List.getElem?_eq_none (by simp only [List.length_take]; omega)]
      have st4 : Still H H4 := by
        refine Fr.then (S' := OnlyOf v) s12 ?_ fun x hx' h => ?_
        · rw [← hH4]
          exact g7.set _ _ fun _ => by unfold OnlyOf; rw [hv]; rfl
        · unfold OnlyOf at h
          have := hvb x h
          omega
      have run : s_slices_DeleteFunc_Pair guardK condL shareL Try.prog CC l_slices_DeleteFunc_Pair_0 v (clo H.n) H2 (endK Try.prog [.tmp 4]) = some (.slice (some ⟨b, o, none⟩) i' (2 * cc + 1), H4) := by
        simp (disch := first | with_reducible rfl | assumption | omega | rfl | (simp only [go_sem]; first | done | omega)) only [go_sem, ↓reduceIte, reduceCtorEq, Nat.reduceEqDiff, Nat.reduceAdd, Nat.reduceSub, Nat.reduceMul, Nat.reduceDiv, Nat.reduceMod, Nat.reduceLeDiff, Nat.reduceLT, Nat.reduceBEq, Int.reduceEq, Int.reduceBEq, Int.reduceBNe, Int.reduceLT, Int.reduceLE, Int.reduceAdd, Int.reduceSub, Int.reduceNeg, Int.reduceToNat, Int.reducePow, Nat.reducePow, Int.reduceMul, Int.reduceDiv, ↓s_slices_DeleteFunc_Pair, ↓enterK_eq e3, enterK_eq e3, g1, q1, q2, q3]
      have e4 : CC F.slices_DeleteFunc_Pair [v, clo H.n] H2 = some (.slice (some ⟨b, o, none⟩) i' (2 * cc + 1), H4) := (d_slices_DeleteFunc_Pair _ _ H2 run).trans (congrArg some (tidy_mem rfl))
      refine fin ow4 st4 (fun b' hb' => by cases hb'; show H.n ≤ b; omega) ?_
      simp (disch := first | with_reducible rfl | assumption | omega | rfl | (simp only [go_sem]; first | done | omega)) only [go_sem, ↓reduceIte, reduceCtorEq, Nat.reduceEqDiff, Nat.reduceAdd, Nat.reduceSub, Nat.reduceMul, Nat.reduceDiv, Nat.reduceMod, Nat.reduceLeDiff, Nat.reduceLT, Nat.reduceBEq, Int.reduceEq, Int.reduceBEq, Int.reduceBNe, Int.reduceLT, Int.reduceLE, Int.reduceAdd, Int.reduceSub, Int.reduceNeg, Int.reduceToNat, Int.reducePow, Nat.reducePow, Int.reduceMul, Int.reduceDiv, ↓s_expire_Store_Alive, hH1, fx1, ↓enterK_eq e2, enterK_eq e2, fx2, ↓enterK_eq e4, enterK_eq e4]
end

end Go.Proofs.Ythjjkinpbpealaa

/-
  The seat's functions as terms over the engine's combinators (a program of ours printed it).
  Conditions: none. By an AI agent.
-/
set_option linter.unusedVariables false
namespace Go.Proofs.Ythjjkinpbpealaa
open Go Eng

/-! ticketline.ticketlinelaw45.ExpireMany -/

noncomputable def s_law_ExpireMany (mg : GT) (mc : CT) (ms : ST) (P : Program) (C : CallF) (L0 : Value → Value → Value → Value → AHeap → K → Res) (a0 : Value) (a1 : Value) (H : AHeap) (K0 : K) : Res :=
bareK (xbin P .lss T.int (.tmp 13) (.const (.int .i64 19998)) a0 (.int .i64 19998)) H fun t14 h1 =>
mg t14 false (fun o1 => o1 a0 h1) h1 fun t16 h2 =>
mg t14 false (fun o2 => bareK (xbin P .gtr T.int (.tmp 16) (.const (.int .i64 20002)) t16 (.int .i64 20002)) h2 o2) h2 fun t17 h3 =>
pickK t14 (.bool true) t17 fun t18 =>
mg t18 false (fun o3 => o3 a1 h3) h3 fun t20 h4 =>
mg t18 false (fun o4 => bareK (xbin P .lss T.int (.tmp 20) (.const (.int .i64 0)) t20 (.int .i64 0)) h4 o4) h4 fun t21 h5 =>
pickK t18 (.bool true) t21 fun t22 =>
mg t22 false (fun o5 => o5 a1 h5) h5 fun t24 h6 =>
mg t22 false (fun o6 => bareK (xbin P .gtr T.int (.tmp 24) (.const (.int .i64 200)) t24 (.int .i64 200)) h6 o6) h6 fun t25 h7 =>
pickK t22 (.bool true) t25 fun t26 =>
mc t26 (fun k7 => enterK C F.law_known [] h7 fun t27 h8 =>
k7 .ret [(4, t27)] h8) (fun k7 =>
k7 .normal [(0, a0), (1, a1)] h7) (seqK (fun tT h9 =>
bareK (bldS #[(.slice none 0 0), (.map none), (.int .i64 0)] [(0, 1), (1, 1), (2, 1)] []) h9 fun t28 h10 =>
bothK (newv T.expire_Store t28 h10) fun t29 h11 =>
ms (fun k8 =>
L0 (get tT 0) (get tT 1) t29 (.int .i64 1) h11 (blkK [0, 1, 5] 0 k8)) (seqK (fun tT_1 h12 =>
nextK C h12 (xbuiltin P .min [T.int, T.int] [(get tT_1 0), (.int .i64 20000)] h12) fun t54 h13 =>
nextK C h13 (xbuiltin P .min [T.int, T.int] [t54, (get tT_1 1)] h13) fun t57 h14 =>
enterK C F.expire_Store_Pass [(get tT_1 5), (get tT_1 1)] h14 fun t60 h15 =>
bareK (xbin P .neq T.api_Errno (.tmp 60) (.const (.int .i64 0)) t60 (.int .i64 0)) h15 fun t61 h16 =>
mg t61 false (fun o9 => o9 (get tT_1 5) h16) h16 fun t63 h17 =>
mg t61 false (fun o10 => enterK C F.expire_Store_Waiting [t63] h17 o10) h17 fun t64 h18 =>
mg t61 false (fun o11 => o11 t57 h18) h18 fun t65 h19 =>
mg t61 false (fun o12 => bareK (xbin P .neq T.int (.tmp 64) (.tmp 65) t64 t65) h19 o12) h19 fun t66 h20 =>
pickK t61 (.bool true) t66 fun t67 =>
mg t67 false (fun o13 => o13 (get tT_1 5) h20) h20 fun t69 h21 =>
mg t67 false (fun o14 => enterK C F.expire_Store_Len [t69] h21 o14) h21 fun t70 h22 =>
mg t67 false (fun o15 => o15 t54 h22) h22 fun t71 h23 =>
mg t67 false (fun o16 => o16 t57 h23) h23 fun t72 h24 =>
mg t67 false (fun o17 => bareK (xbin P .sub T.int (.tmp 71) (.tmp 72) t71 t72) h24 o17) h24 fun t73 h25 =>
mg t67 false (fun o18 => bareK (xbin P .neq T.int (.tmp 70) (.tmp 73) t70 t73) h25 o18) h25 fun t74 h26 =>
pickK t67 (.bool true) t74 fun t75 =>
mc t75 (fun k19 => k19 .ret [(4, (.bool false))] h26) (fun k19 =>
k19 .normal [(5, (get tT_1 5)), (9, t54), (10, t57)] h26) (seqK (fun tT_2 h27 =>
enterK C F.expire_Store_Sweep [(get tT_2 5), (.int .i64 30000)] h27 fun t78 h28 =>
bareK (xextract t78 0) h28 fun t79 h29 =>
bareK (xextract t78 1) h29 fun t80 h30 =>
bareK (xbin P .eql T.api_Errno (.tmp 81) (.const (.int .i64 0)) t80 (.int .i64 0)) h30 fun t82 h31 =>
mg t82 true (fun o20 => o20 t79 h31) h31 fun t84 h32 =>
mg t82 true (fun o21 => bareK (lenS t84) h32 o21) h32 fun t85 h33 =>
mg t82 true (fun o22 => o22 (get tT_2 10) h33) h33 fun t86 h34 =>
mg t82 true (fun o23 => bareK (xbin P .eql T.int (.tmp 85) (.tmp 86) t85 t86) h34 o23) h34 fun t87 h35 =>
pickK t82 t87 (.bool false) fun t88 =>
mg t88 true (fun o24 => o24 (get tT_2 5) h35) h35 fun t90 h36 =>
mg t88 true (fun o25 => enterK C F.expire_Store_Waiting [t90] h36 o25) h36 fun t91 h37 =>
mg t88 true (fun o26 => bareK (xbin P .eql T.int (.tmp 91) (.const (.int .i64 0)) t91 (.int .i64 0)) h37 o26) h37 fun t92 h38 =>
pickK t88 t92 (.bool false) fun t93 =>
mg t93 true (fun o27 => o27 (get tT_2 5) h38) h38 fun t95 h39 =>
mg t93 true (fun o28 => enterK C F.expire_Store_Len [t95] h39 o28) h39 fun t96 h40 =>
mg t93 true (fun o29 => o29 (get tT_2 9) h40) h40 fun t97 h41 =>
mg t93 true (fun o30 => o30 (get tT_2 10) h41) h41 fun t98 h42 =>
mg t93 true (fun o31 => bareK (xbin P .sub T.int (.tmp 97) (.tmp 98) t97 t98) h42 o31) h42 fun t99 h43 =>
mg t93 true (fun o32 => bareK (xbin P .eql T.int (.tmp 96) (.tmp 99) t96 t99) h43 o32) h43 fun t100 h44 =>
pickK t93 t100 (.bool false) fun t101 =>
mg t101 true (fun o33 => o33 (get tT_2 5) h44) h44 fun t103 h45 =>
mg t101 true (fun o34 => enterK C F.expire_Store_Alive [t103] h45 o34) h45 fun t104 h46 =>
mg t101 true (fun o35 => bareK (lenS t104) h46 o35) h46 fun t105 h47 =>
mg t101 true (fun o36 => o36 (get tT_2 9) h47) h47 fun t106 h48 =>
mg t101 true (fun o37 => o37 (get tT_2 10) h48) h48 fun t107 h49 =>
mg t101 true (fun o38 => bareK (xbin P .sub T.int (.tmp 106) (.tmp 107) t106 t107) h49 o38) h49 fun t108 h50 =>
mg t101 true (fun o39 => bareK (xbin P .eql T.int (.tmp 105) (.tmp 108) t105 t108) h50 o39) h50 fun t109 h51 =>
pickK t101 t109 (.bool false) fun t110 =>
mg t110 true (fun o40 => enterK C F.law_known [] h51 o40) h51 fun t112 h52 =>
pickK t110 t112 (.bool false) fun t113 =>
K0 .ret [(4, t113)] h52) K0)) K0)) K0)

noncomputable def s_law_ExpireMany_b0 (mg : GT) (mc : CT) (ms : ST) (P : Program) (C : CallF) (L0 : Value → Value → Value → Value → AHeap → K → Res) (v0 : Value) (v1 : Value) (v5 : Value) (v6 : Value) (H : AHeap) (k : K) : Res :=
bareK (xbin P .leq T.int (.tmp 30) (.tmp 31) v6 v0) H fun t32 h12 =>
mc t32 (fun k9 => k9 .normal [(0, v0), (1, v1), (5, v5), (6, v6)] h12) (fun k9 =>
k9 (.exit 0) [(32, t32), (31, v0), (30, v6), (0, v0), (1, v1), (5, v5), (6, v6)] h12) (seqK (fun tT h13 =>
ms (fun k10 =>
bareK (xbin P .quo T.int (.tmp 35) (.const (.int .i64 65536)) (get tT 6) (.int .i64 65536)) h13 fun t36 h14 =>
bothK (xconv P T.int T.uint8 t36 h14) fun t37 h15 =>
bareK (xbin P .quo T.int (.tmp 38) (.const (.int .i64 256)) (get tT 6) (.int .i64 256)) h15 fun t39 h16 =>
bothK (xconv P T.int T.uint8 t39 h16) fun t40 h17 =>
bothK (xconv P T.int T.uint8 (get tT 6) h17) fun t42 h18 =>
bothK (bldL T.uint8 [(.int .u8 0)] 3 [(0, t37), (1, t40), (2, t42)] h18) fun t43 h19 =>
bothK (xconv P T.sl_uint8 T.string t43 h19) fun t44 h20 =>
bareK (xbin P .gtr T.int (.tmp 45) (.const (.int .i64 20000)) (get tT 6) (.int .i64 20000)) h20 fun t46 h21 =>
mc t46 (fun k11 => k11 .normal [(0, (get tT 0)), (1, (get tT 1)), (5, (get tT 5)), (6, (get tT 6)), (7, t44), (8, (.int .i64 7))] h21) (fun k11 =>
k11 .normal [(0, (get tT 0)), (1, (get tT 1)), (5, (get tT 5)), (6, (get tT 6)), (7, t44), (8, (.int .i64 0))] h21) (seqK (fun tT_1 h22 =>
enterK C F.expire_Store_Put [(get tT_1 5), (get tT_1 7), (.string (mk [])), (get tT_1 6)] h22 fun t50 h23 =>
bareK (xbin P .neq T.api_Errno (.tmp 50) (.tmp 51) t50 (get tT_1 8)) h23 fun t52 h24 =>
mc t52 (fun k12 => k12 .ret [(4, (.bool false))] h24) (fun k12 =>
k12 .normal [(0, (get tT_1 0)), (1, (get tT_1 1)), (5, (get tT_1 5)), (6, (get tT_1 6))] h24) (blkK [0, 1, 5, 6] 1 k10)) (blkK [0, 1, 5, 6] 1 k10))) (seqK (fun tT_2 h25 =>
bareK (xbin P .add T.int (.tmp 33) (.const (.int .i64 1)) (get tT_2 6) (.int .i64 1)) h25 fun t34 h26 =>
k .normal [(0, (get tT_2 0)), (1, (get tT_2 1)), (5, (get tT_2 5)), (6, t34)] h26) (afterK [0, 1, 5, 6] k))) (afterK [0, 1, 5, 6] k))

theorem s_law_ExpireMany_eq (M : CombL) (C : CallF) (LP : LoopH) (a0 : Value) (a1 : Value) (H : AHeap) : dBodyL M Try.prog hints C LP F.law_ExpireMany [a0, a1] H = s_law_ExpireMany M.b.g M.c M.s Try.prog C (fun v0 v1 v5 v6 H k => loopL M Try.prog hints C LP F.law_ExpireMany 0 [(0, v0), (1, v1), (5, v5), (6, v6)] H k) a0 a1 H (endK Try.prog [.tmp 4]) := by kernel_rfl

theorem s_law_ExpireMany_b0_eq (M : CombL) (C : CallF) (LP : LoopH) (v0 : Value) (v1 : Value) (v5 : Value) (v6 : Value) (H : AHeap) (k : K) : bodyL M Try.prog hints C LP F.law_ExpireMany 0 [(0, v0), (1, v1), (5, v5), (6, v6)] H (afterK [0, 1, 5, 6] k) = s_law_ExpireMany_b0 M.b.g M.c M.s Try.prog C (fun v0 v1 v5 v6 H k => loopL M Try.prog hints C LP F.law_ExpireMany 0 [(0, v0), (1, v1), (5, v5), (6, v6)] H k) v0 v1 v5 v6 H k := by kernel_rfl

end Go.Proofs.Ythjjkinpbpealaa

/-
  The equations of the seat's functions over calls in the limit (a program of ours printed it).
  Conditions: none. By an AI agent.
-/
set_option linter.unusedVariables false
namespace Go.Proofs.Ythjjkinpbpealaa
open Go Eng

theorem u_sl_uint8 : Try.prog.underlying T.sl_uint8 = Try.prog.underlying 30 := rfl
@[go_sem] theorem x_int_uint8 {n : Int} {H : AHeap} : xconv Try.prog T.int T.uint8 (.int .i64 n) H = some (.int .u8 (IntKind.wrap .u8 n), H) := xconv_int (P := Try.prog) (s := 3) (t := 5) Try.underlying3 Try.underlying5

noncomputable def l_law_ExpireMany_0 (v0 : Value) (v1 : Value) (v5 : Value) (v6 : Value) (H : AHeap) (k : K) : Res := loopL stdL Try.prog hints CC limLP F.law_ExpireMany 0 [(0, v0), (1, v1), (5, v5), (6, v6)] H k
theorem r_law_ExpireMany_0 (v0 : Value) (v1 : Value) (v5 : Value) (v6 : Value) (H : AHeap) (k : K) : l_law_ExpireMany_0 v0 v1 v5 v6 H k = s_law_ExpireMany_b0 guardK condL shareL Try.prog CC l_law_ExpireMany_0 v0 v1 v5 v6 H (seqK (fun T H => l_law_ExpireMany_0 (get T 0) (get T 1) (get T 5) (get T 6) H k) k) := ((loopL_next (by kernel_rfl) rfl H k).trans (s_law_ExpireMany_b0_eq stdL CC limLP v0 v1 v5 v6 H _)).trans (by kernel_rfl)
theorem d_law_ExpireMany (a0 : Value) (a1 : Value) (H : AHeap) {r : Value × AHeap} (h : s_law_ExpireMany guardK condL shareL Try.prog CC l_law_ExpireMany_0 a0 a1 H (endK Try.prog [.tmp 4]) = some r) : CC F.law_ExpireMany [a0, a1] H = some (tidy H r) := D_body (by kernel_rfl) ((s_law_ExpireMany_eq stdL CC limLP a0 a1 H).trans (Eq.trans (show s_law_ExpireMany stdL.b.g stdL.c stdL.s Try.prog CC (fun v0 v1 v5 v6 H k => loopL stdL Try.prog hints CC limLP F.law_ExpireMany 0 [(0, v0), (1, v1), (5, v5), (6, v6)] H k) a0 a1 H (endK Try.prog [.tmp 4]) = s_law_ExpireMany guardK condL shareL Try.prog CC l_law_ExpireMany_0 a0 a1 H (endK Try.prog [.tmp 4]) by kernel_rfl) h))

end Go.Proofs.Ythjjkinpbpealaa

/-
  Chapter 45: the law ExpireMany runs to true.
  Conditions: none. By an AI agent.
-/
set_option maxRecDepth 10000
set_option linter.unusedSimpArgs false
set_option linter.unusedVariables false
namespace Go.Proofs.Ythjjkinpbpealaa
open Go Eng
attribute [local congr] bareK_congr' bothK_congr' quietK_congr'

/-! ### what is swept out -/
theorem del_filter : ∀ {S : List En}, Srt (pl S) → ∀ (k : ByteArray), delR S k = S.filter fun x => !decide (x.key = k)
  | [], _, _ => rfl
  | y :: S, hs, k => by
    have hp := List.pairwise_cons.1 hs
    rw [delR, List.filter_cons]
    by_cases h : y.key = k
    · rw [if_pos h]
      have : (!decide (y.key = k)) = false := by simp [h]
      rw [this, if_neg (by decide)]
      refine (List.filter_eq_self.2 fun x hx => ?_).symm
      have h1 : cmpS y.key x.key < 0 := hp.1 (toP x) (List.mem_map_of_mem hx)
      have : ¬ x.key = k := fun e => by rw [e, ← h, cmpS_self] at h1; exact absurd h1 (by decide)
      simp [this]
    · rw [if_neg h]
      have : (!decide (y.key = k)) = true := by simp [h]
      rw [this, if_pos rfl, del_filter hp.2 k]
theorem sweep_srt : ∀ (ks : List ByteArray) {S : List En}, Srt (pl S) → Srt (pl (sweepS S ks))
  | [], _, hs => hs
  | k :: ks, _, hs => sweep_srt ks (del_srt hs k)
theorem sweep_filter : ∀ (ks : List ByteArray) {S : List En}, Srt (pl S) → sweepS S ks = S.filter fun x => ks.all fun k => !decide (x.key = k)
  | [], S, _ => by
    show S = _
    exact (List.filter_eq_self.2 fun x _ => rfl).symm
  | k :: ks, S, hs => by
    show sweepS (delR S k) ks = _
    rw [sweep_filter ks (del_srt hs k), del_filter hs, List.filter_filter]
    refine List.filter_congr fun x _ => ?_
    rw [List.all_cons, Bool.and_comm]
def dueB (now : Nat) (x : En) : Bool := decide (0 < x.e) && decide (x.e ≤ now)
theorem key_uniq {S : List En} (hs : Srt (pl S)) {x y : En} (hx : x ∈ S) (hy : y ∈ S) (h : x.key = y.key) : x = y := by
  have h1 := getS_mem hs hx
  have h2 := getS_mem hs hy
  rw [h, h2] at h1
  exact (Option.some.inj h1).symm
theorem end_of_mem {S : List En} (hs : Srt (pl S)) {x : En} (hx : x ∈ S) : endOf S x.key = x.e := by
  rw [endOf_get, getS_mem hs hx]
  rfl
theorem endB_mem {S : List En} (hs : Srt (pl S)) {x : En} (hx : x ∈ S) (now : Nat) : endB S now x.key = dueB now x := by
  unfold endB dueB
  rw [end_of_mem hs hx]
theorem sweep_all {S : List En} (hs : Srt (pl S)) (now : Nat) : sweepS S (wS S now) = S.filter fun x => !dueB now x := by
  rw [sweep_filter _ hs]
  refine List.filter_congr fun x hx => ?_
  have key : (wS S now).all (fun k => !decide (x.key = k)) = true ↔ ¬ dueB now x = true := by
    rw [List.all_eq_true]
    constructor
    · intro h hd
      unfold dueB at hd
      simp only [Bool.and_eq_true, decide_eq_true_eq] at hd
      have := h x.key (wS_mem.2 ⟨x, hx, rfl, hd⟩)
      simp at this
    · intro h k hk
      obtain ⟨y, hy, rfl, h1, h2⟩ := wS_mem.1 hk
      have : ¬ x.key = y.key := fun e => by
        have := key_uniq hs hx hy e
        subst this
        exact h (by unfold dueB; simp [h1, h2])
      simp [this]
  cases hd : dueB now x with
  | true => rw [hd] at key; simpa using key
  | false => rw [hd] at key; simpa using key
theorem wS_none {S : List En} {now : Nat} (h : ∀ x ∈ S, ¬ dueB now x = true) : wS S now = [] := by
  refine List.length_eq_zero_iff.1 ?_
  rw [wS_len]
  have : (S.filter fun x => decide (0 < x.e) && decide (x.e ≤ now)) = [] := List.filter_eq_nil_iff.2 fun x hx => by
    have := h x hx
    unfold dueB at this
    exact this
  rw [this]
  rfl
theorem alive_len {S : List En} (hs : Srt (pl S)) (now : Nat) : (aliveS S now).length = S.length - (wS S now).length := by
  have h1 : aliveS S now = pl (S.filter fun x => !dueB now x) := by
    unfold aliveS pl
    rw [List.filter_map]
    congr 1
    refine List.filter_congr fun x hx => ?_
    show (!endB S now x.key) = _
    rw [endB_mem hs hx]
  rw [h1, wS_len]
  have h2 : (pl (S.filter fun x => !dueB now x)).length = (S.filter fun x => !dueB now x).length := by simp [pl]
  rw [h2]
  have h3 : ∀ S : List En, (S.filter fun x => !dueB now x).length + (S.filter fun x => dueB now x).length = S.length := by
    intro S
    induction S with
    | nil => rfl
    | cons x S ih =>
      rw [List.filter_cons, List.filter_cons]
      cases dueB now x <;> simp <;> omega
  have := h3 S
  have h4 : (S.filter fun x => decide (0 < x.e) && decide (x.e ≤ now)) = S.filter fun x => dueB now x := rfl
  rw [h4]
  omega

/-! ### the keys -/
def kL (i : Nat) : List UInt8 := [0, UInt8.ofNat (i / 256), UInt8.ofNat (i % 256)]
def kN (i : Nat) : ByteArray := mk (kL i)
theorem kN_lt {i j : Nat} (h : i < j) (hj : j < 65536) : cmpS (kN i) (kN j) < 0 := by
  unfold cmpS kN
  rw [bl_mk, bl_mk]
  unfold kL
  have e : ∀ n, n < 256 → (UInt8.ofNat n).toNat = n := fun n hn => UInt8.toNat_ofNat_of_lt' hn
  have lt : ∀ a b, a < 256 → b < 256 → (UInt8.ofNat a < UInt8.ofNat b ↔ a < b) := fun a b ha hb => by rw [u8_lt, e a ha, e b hb]
  have a1 := lt (i / 256) (j / 256) (by omega) (by omega)
  have a2 := lt (j / 256) (i / 256) (by omega) (by omega)
  have b1 := lt (i % 256) (j % 256) (by omega) (by omega)
  simp only [Lib.compareBytes]
  rw [if_neg (by decide), if_neg (by decide)]
  by_cases c1 : i / 256 < j / 256
  · rw [if_pos (a1.2 c1)]; decide
  · rw [if_neg (fun h => c1 (a1.1 h)), if_neg (fun h => by have := a2.1 h; omega), if_pos (b1.2 (by omega))]
    decide
def eM (i : Nat) : En := ⟨kN (i + 1), mk [], i + 1⟩
def SM (n : Nat) : List En := (List.range n).map eM
theorem SM_succ (n : Nat) : SM (n + 1) = SM n ++ [eM n] := by
  unfold SM
  rw [List.range_succ, List.map_append]
  rfl
theorem SM_len (n : Nat) : (SM n).length = n := by simp [SM]
theorem SM_mem {n : Nat} {x : En} : x ∈ SM n ↔ ∃ i, i < n ∧ x = eM i := by
  unfold SM
  constructor
  · intro h
    obtain ⟨i, hi, rfl⟩ := List.mem_map.1 h
    exact ⟨i, List.mem_range.1 hi, rfl⟩
  · rintro ⟨i, hi, rfl⟩
    exact List.mem_map.2 ⟨i, List.mem_range.2 hi, rfl⟩
theorem ins_end_list : ∀ {S : List En} {x : En}, (∀ y ∈ S, cmpS y.key x.key < 0) → insR S x = S ++ [x]
  | [], _, _ => rfl
  | y :: S, x, h => by
    rw [insR, if_pos (h y (by simp)), ins_end_list fun z hz => h z (by simp [hz])]
    rfl
theorem SM_low {n i : Nat} (h : n ≤ i) (hi : i + 1 < 65536) : ∀ y ∈ SM n, cmpS y.key (kN (i + 1)) < 0 := fun y hy => by
  obtain ⟨j, hj, rfl⟩ := SM_mem.1 hy
  exact kN_lt (by omega) (by omega)
theorem SM_due (tick : Nat) : ∀ n, ((SM n).filter fun x => decide (0 < x.e) && decide (x.e ≤ tick)).length = min n tick
  | 0 => by simp [SM]
  | n + 1 => by
    rw [SM_succ, List.filter_append, List.length_append, SM_due tick n]
    by_cases h : n + 1 ≤ tick
    · have : ([eM n].filter fun x => decide (0 < x.e) && decide (x.e ≤ tick)) = [eM n] := by simp [eM, h]
      rw [this]
      simp
      omega
    · have : ([eM n].filter fun x => decide (0 < x.e) && decide (x.e ≤ tick)) = [] := by simp [eM]; omega
      rw [this]
      simp
      omega
theorem chk_kN (i : Nat) : chk (kN i) [mk []] = 0 := by
  unfold chk kN kL
  rw [bl_mk]
  simp [bl_mk]

theorem wrap8 (n : Nat) : IntKind.wrap .u8 (n : Int) = ((n % 256 : Nat) : Int) := by
  simp [IntKind.wrap, IntKind.bits, IntKind.signed]
theorem cv8 {H : AHeap} (n : Nat) : xconv Try.prog T.int T.uint8 (.int .i64 (n : Int)) H = some (.int .u8 ((n % 256 : Nat) : Int), H) := by
  rw [show xconv Try.prog T.int T.uint8 (.int .i64 (n : Int)) H = _ from xconv_int Try.underlying3 Try.underlying5, wrap8]
theorem bcell (n : Nat) (h : n < 256) : byteCell (UInt8.ofNat n) = .int .u8 (n : Int) := by
  unfold byteCell
  rw [UInt8.toNat_ofNat_of_lt' h]

section
variable {c : Nat}
/-- The key of a round. -/
theorem q_keyM (i : Nat) (hi : i < 65536) (H : AHeap) : ∃ H1, Still H H1 ∧ bldL T.uint8 [(.int .u8 0)] 3 [(0, .int .u8 ((i / 65536 % 256 : Nat) : Int)), (1, .int .u8 ((i / 256 % 256 : Nat) : Int)), (2, .int .u8 ((i % 256 : Nat) : Int))] H = some (.slice (some ⟨H.n, 0, none⟩) 3 (2 * 3), H1) ∧
    xconv Try.prog T.sl_uint8 T.string (.slice (some ⟨H.n, 0, none⟩) 3 (2 * 3)) H1 = some (.string (kN i), H1) := by
  obtain ⟨H1, hH1⟩ : ∃ H1, H.push (.cells (EB.cells (kL i)) T.uint8 true) = H1 := ⟨_, rfl⟩
  have hcells : EB.cells (kL i) = [.int .u8 ((i / 65536 % 256 : Nat) : Int), .int .u8 ((i / 256 % 256 : Nat) : Int), .int .u8 ((i % 256 : Nat) : Int)] := by
    rw [EB_cells]
    unfold kL
    simp only [List.map_cons, List.map_nil]
    rw [bcell (i / 256) (by omega), bcell (i % 256) (by omega), show i / 65536 % 256 = 0 by omega, show i / 256 % 256 = i / 256 by omega]
    rfl
  have s1 : Still H H1 := by rw [← hH1]; exact (Fr.refl H).push _
  have n1 : H1.n = H.n + 1 := by rw [← hH1]; rfl
  refine ⟨H1, s1, ?_, ?_⟩
  · rw [← hH1, hcells]
    rfl
  · have hr : Rd EB H1 (.slice (some ⟨H.n, 0, none⟩) 3 (2 * 3)) (kL i) := .inr (.inr ⟨H.n, 0, _, rfl, by unfold kL; simp, by omega, by
      rw [← hH1, push_f_eq rfl, hcells]
      rfl⟩)
    exact conv_bs Try.underlying30 Try.underlying5 Try.underlying9 hr

theorem put_many (i : Nat) (hi : i < 20002) : putX (SM (min i 20000)) 0 (kN (i + 1)) (mk []) ((i + 1 : Nat) : Int) = (if i < 20000 then (0, SM (min (i + 1) 20000)) else (7, SM (min (i + 1) 20000))) := by
  unfold putX
  rw [if_neg (by omega), if_neg (fun h => h (chk_kN _)), if_neg (by omega)]
  have hlow : ∀ y ∈ SM (min i 20000), cmpS y.key (kN (i + 1)) < 0 := SM_low (by omega) (by omega)
  have hg : getS (SM (min i 20000)) (kN (i + 1)) = none := getS_none fun x hx e => by
    have := hlow x hx
    rw [e, cmpS_self] at this
    exact absurd this (by decide)
  rw [hg, SM_len]
  by_cases h : i < 20000
  · rw [if_neg (by simp; omega), if_pos h, Int.toNat_natCast, show min i 20000 = i by omega, show min (i + 1) 20000 = i + 1 by omega, SM_succ]
    rw [show min i 20000 = i by omega] at hlow
    rw [ins_end_list hlow]
    rfl
  · rw [if_pos ⟨rfl, by omega⟩, if_neg h, show min i 20000 = min (i + 1) 20000 by omega]

theorem l_many (many : Nat) (v1 : Value) (hm : many ≤ 20002) : ∀ (d i : Nat) (m : Option Nat) (E : Ec) (H : AHeap), i + d = many → Ok H → StR H c m E (SM (min i 20000)) 0 →
    ∃ m' E' H', (∀ K, l_law_ExpireMany_0 (.int .i64 (many : Int)) v1 (pt c) (.int .i64 ((i + 1 : Nat) : Int)) H (blkK [0, 1, 5] 0 K) = K .normal [(0, .int .i64 (many : Int)), (1, v1), (5, pt c)] H') ∧ Ok H' ∧ StR H' c m' E' (SM (min many 20000)) 0
  | 0, i, m, E, H, hi, ok, r => by
    obtain rfl : i = many := by omega
    have hlt : ¬ ((i + 1 : Nat) : Int) ≤ (i : Int) := by omega
    refine ⟨m, E, H, fun K => ?_, ok, r⟩
    rw [r_law_ExpireMany_0]
    generalize ((i + 1 : Nat) : Int) = I at hlt ⊢
    simp (disch := first | with_reducible rfl | assumption | omega | rfl | (simp only [go_sem]; first | done | omega)) only [go_sem, ↓reduceIte, reduceCtorEq, Nat.reduceEqDiff, Nat.reduceAdd, Nat.reduceSub, Nat.reduceMul, Nat.reduceDiv, Nat.reduceMod, Nat.reduceLeDiff, Nat.reduceLT, Nat.reduceBEq, Int.reduceEq, Int.reduceBEq, Int.reduceBNe, Int.reduceLT, Int.reduceLE, Int.reduceAdd, Int.reduceSub, Int.reduceNeg, Int.reduceToNat, Int.reducePow, Nat.reducePow, Int.reduceMul, Int.reduceDiv, ↓s_law_ExpireMany_b0, hlt]
  | d + 1, i, m, E, H, hi, ok, r => by
    have hlt : ((i + 1 : Nat) : Int) ≤ (many : Int) := by omega
    have q1 : ∀ ox oy, xbin Try.prog .quo T.int ox oy (.int .i64 ((i + 1 : Nat) : Int)) (.int .i64 65536) = some (.int .i64 (((i + 1) / 65536 : Nat) : Int)) := fun ox oy => quoN (b := 65536) (by decide) (by omega)
    have q2 : ∀ ox oy, xbin Try.prog .quo T.int ox oy (.int .i64 ((i + 1 : Nat) : Int)) (.int .i64 256) = some (.int .i64 (((i + 1) / 256 : Nat) : Int)) := fun ox oy => quoN (b := 256) (by decide) (by omega)
    have w1 := fun H : AHeap => cv8 (H := H) ((i + 1) / 65536)
    have w2 := fun H : AHeap => cv8 (H := H) ((i + 1) / 256)
    have w3 := fun H : AHeap => cv8 (H := H) (i + 1)
    obtain ⟨H1, s1, bd, cv⟩ := q_keyM (i + 1) (by omega) H
    have r1 := r.still s1
    have ok1 := s1.ok ok
    obtain ⟨m', E', H2, e2, r2, u2⟩ := q_xPut ok1 r1 (kN (i + 1)) (mk []) ((i + 1 : Nat) : Int)
    rw [put_many i (by omega)] at e2 r2
    have ok2 := u2.fr.ok ok1
    have hadd : ∀ ox oy, xbin Try.prog .add T.int ox oy (.int .i64 ((i + 1 : Nat) : Int)) (.int .i64 1) = some (.int .i64 ((i + 1 + 1 : Nat) : Int)) := fun ox oy => by
      rw [add_i64 (by omega)]
      rfl
    by_cases hg : i < 20000
    · rw [if_pos hg] at e2 r2
      have hg' : ¬ (20000 : Int) < ((i + 1 : Nat) : Int) := by omega
      obtain ⟨m3, E3, H3, g1, g2, g3⟩ := l_many many v1 hm d (i + 1) m' E' H2 (by omega) ok2 r2
      refine ⟨m3, E3, H3, fun K => ?_, g2, g3⟩
      have ih := g1 K
      rw [r_law_ExpireMany_0]
      generalize ((i + 1 : Nat) : Int) = I at hlt q1 q2 w3 e2 hg' hadd ⊢
      generalize (((i + 1) / 65536 : Nat) : Int) = I1 at q1 w1
      generalize (((i + 1) / 256 : Nat) : Int) = I2 at q2 w2
      generalize (((i + 1) / 65536 % 256 : Nat) : Int) = J1 at w1 bd
      generalize (((i + 1) / 256 % 256 : Nat) : Int) = J2 at w2 bd
      generalize (((i + 1) % 256 : Nat) : Int) = J3 at w3 bd
      simp (disch := first | with_reducible rfl | assumption | omega | rfl | (simp only [go_sem]; first | done | omega)) only [go_sem, ↓reduceIte, reduceCtorEq, Nat.reduceEqDiff, Nat.reduceAdd, Nat.reduceSub, Nat.reduceMul, Nat.reduceDiv, Nat.reduceMod, Nat.reduceLeDiff, Nat.reduceLT, Nat.reduceBEq, Int.reduceEq, Int.reduceBEq, Int.reduceBNe, Int.reduceLT, Int.reduceLE, Int.reduceAdd, Int.reduceSub, Int.reduceNeg, Int.reduceToNat, Int.reducePow, Nat.reducePow, Int.reduceMul, Int.reduceDiv, ↓s_law_ExpireMany_b0, hlt, ↓q1, q1, ↓q2, q2, ↓w1, w1, ↓w2, w2, ↓w3, w3, ↓bd, bd, ↓cv, cv, hg', ↓enterK_eq e2, enterK_eq e2, ↓hadd, hadd]
      exact ih
    · rw [if_neg hg] at e2 r2
      have hg' : (20000 : Int) < ((i + 1 : Nat) : Int) := by omega
      obtain ⟨m3, E3, H3, g1, g2, g3⟩ := l_many many v1 hm d (i + 1) m' E' H2 (by omega) ok2 r2
      refine ⟨m3, E3, H3, fun K => ?_, g2, g3⟩
      have ih := g1 K
      rw [r_law_ExpireMany_0]
      generalize ((i + 1 : Nat) : Int) = I at hlt q1 q2 w3 e2 hg' hadd ⊢
      generalize (((i + 1) / 65536 : Nat) : Int) = I1 at q1 w1
      generalize (((i + 1) / 256 : Nat) : Int) = I2 at q2 w2
      generalize (((i + 1) / 65536 % 256 : Nat) : Int) = J1 at w1 bd
      generalize (((i + 1) / 256 % 256 : Nat) : Int) = J2 at w2 bd
      generalize (((i + 1) % 256 : Nat) : Int) = J3 at w3 bd
      simp (disch := first | with_reducible rfl | assumption | omega | rfl | (simp only [go_sem]; first | done | omega)) only [go_sem, ↓reduceIte, reduceCtorEq, Nat.reduceEqDiff, Nat.reduceAdd, Nat.reduceSub, Nat.reduceMul, Nat.reduceDiv, Nat.reduceMod, Nat.reduceLeDiff, Nat.reduceLT, Nat.reduceBEq, Int.reduceEq, Int.reduceBEq, Int.reduceBNe, Int.reduceLT, Int.reduceLE, Int.reduceAdd, Int.reduceSub, Int.reduceNeg, Int.reduceToNat, Int.reducePow, Nat.reducePow, Int.reduceMul, Int.reduceDiv, ↓s_law_ExpireMany_b0, hlt, ↓q1, q1, ↓q2, q2, ↓w1, w1, ↓w2, w2, ↓w3, w3, ↓bd, bd, ↓cv, cv, hg', ↓enterK_eq e2, enterK_eq e2, ↓hadd, hadd]
      exact ih
end

/-- The empty store. -/
theorem r_empty {H : AHeap} {c : Nat} (hf : H.f c = .cells [.slice none 0 0, .map none, .int .i64 0] T.expire_Store true) (hc : c < H.n) : StR H c none [] [] 0 :=
  ⟨⟨.slice none 0 0, hf, hc, .inl ⟨rfl, rfl⟩, fun h => by cases h⟩, rfl, fun mb h => (by cases h), by simp, fun k => rfl, List.Pairwise.nil, by simp, fun x hx => by simp at hx, by decide, fun x hx => by simp at hx⟩

attribute [-go_sem] bldS
theorem q_ExpireMany (a b : Int) (H : AHeap) (ok : Ok H) : ∃ H', CC F.law_ExpireMany [.int .i64 a, .int .i64 b] H = some (.bool true, H') := by
  by_cases h1 : a < 19998
  · refine any_of (H1 := H) (d_law_ExpireMany _ _ H ?_)
    simp (disch := first | with_reducible rfl | assumption | omega | rfl | (simp only [go_sem]; first | done | omega)) only [go_sem, ↓reduceIte, reduceCtorEq, Nat.reduceEqDiff, Nat.reduceAdd, Nat.reduceSub, Nat.reduceMul, Nat.reduceDiv, Nat.reduceMod, Nat.reduceLeDiff, Nat.reduceLT, Nat.reduceBEq, Int.reduceEq, Int.reduceBEq, Int.reduceBNe, Int.reduceLT, Int.reduceLE, Int.reduceAdd, Int.reduceSub, Int.reduceNeg, Int.reduceToNat, Int.reducePow, Nat.reducePow, Int.reduceMul, Int.reduceDiv, ↓s_law_ExpireMany, h1, e_known]
  by_cases h2 : 20002 < a
  · refine any_of (H1 := H) (d_law_ExpireMany _ _ H ?_)
    simp (disch := first | with_reducible rfl | assumption | omega | rfl | (simp only [go_sem]; first | done | omega)) only [go_sem, ↓reduceIte, reduceCtorEq, Nat.reduceEqDiff, Nat.reduceAdd, Nat.reduceSub, Nat.reduceMul, Nat.reduceDiv, Nat.reduceMod, Nat.reduceLeDiff, Nat.reduceLT, Nat.reduceBEq, Int.reduceEq, Int.reduceBEq, Int.reduceBNe, Int.reduceLT, Int.reduceLE, Int.reduceAdd, Int.reduceSub, Int.reduceNeg, Int.reduceToNat, Int.reducePow, Nat.reducePow, Int.reduceMul, Int.reduceDiv, ↓s_law_ExpireMany, h1, h2, e_known]
  by_cases h3 : b < 0
  · refine any_of (H1 := H) (d_law_ExpireMany _ _ H ?_)
    simp (disch := first | with_reducible rfl | assumption | omega | rfl | (simp only [go_sem]; first | done | omega)) only [go_sem, ↓reduceIte, reduceCtorEq, Nat.reduceEqDiff, Nat.reduceAdd, Nat.reduceSub, Nat.reduceMul, Nat.reduceDiv, Nat.reduceMod, Nat.reduceLeDiff, Nat.reduceLT, Nat.reduceBEq, Int.reduceEq, Int.reduceBEq, Int.reduceBNe, Int.reduceLT, Int.reduceLE, Int.reduceAdd, Int.reduceSub, Int.reduceNeg, Int.reduceToNat, Int.reducePow, Nat.reducePow, Int.reduceMul, Int.reduceDiv, ↓s_law_ExpireMany, h1, h2, h3, e_known]
  by_cases h4 : 200 < b
  · refine any_of (H1 := H) (d_law_ExpireMany _ _ H ?_)
    simp (disch := first | with_reducible rfl | assumption | omega | rfl | (simp only [go_sem]; first | done | omega)) only [go_sem, ↓reduceIte, reduceCtorEq, Nat.reduceEqDiff, Nat.reduceAdd, Nat.reduceSub, Nat.reduceMul, Nat.reduceDiv, Nat.reduceMod, Nat.reduceLeDiff, Nat.reduceLT, Nat.reduceBEq, Int.reduceEq, Int.reduceBEq, Int.reduceBNe, Int.reduceLT, Int.reduceLE, Int.reduceAdd, Int.reduceSub, Int.reduceNeg, Int.reduceToNat, Int.reducePow, Nat.reducePow, Int.reduceMul, Int.reduceDiv, ↓s_law_ExpireMany, h1, h2, h3, h4, e_known]
  obtain ⟨many, rfl⟩ : ∃ k : Nat, a = (k : Int) := ⟨a.toNat, by omega⟩
  obtain ⟨tick, rfl⟩ : ∃ k : Nat, b = (k : Int) := ⟨b.toNat, by omega⟩
  obtain ⟨H1, hH1⟩ : ∃ H1, H.push (.cells [.slice none 0 0, .map none, .int .i64 0] T.expire_Store true) = H1 := ⟨_, rfl⟩
  have n1 : H1.n = H.n + 1 := by rw [← hH1]; rfl
  have s1 : Still H H1 := by rw [← hH1]; exact (Fr.refl H).push _
  have r0 : StR H1 H.n none [] (SM (min 0 20000)) 0 := r_empty (by rw [← hH1]; exact push_f_eq rfl) (by omega)
  obtain ⟨m2, E2, H2, g1, ok2, r2⟩ := l_many (c := H.n) many (.int .i64 (tick : Int)) (by omega) many 0 none [] H1 (by omega) (s1.ok ok) r0
  have g1 : ∀ K, l_law_ExpireMany_0 (.int .i64 (many : Int)) (.int .i64 (tick : Int)) (pt H.n) (.int .i64 1) H1 (blkK [0, 1, 5] 0 K) = K .normal [(0, .int .i64 (many : Int)), (1, .int .i64 (tick : Int)), (5, pt H.n)] H2 := g1
  obtain ⟨n, hn⟩ : ∃ n, min many 20000 = n := ⟨_, rfl⟩
  obtain ⟨gone, hgo⟩ : ∃ g, min n tick = g := ⟨_, rfl⟩
  rw [hn] at r2
  have mn1 : xbuiltin Try.prog .min [T.int, T.int] [.int .i64 (many : Int), .int .i64 20000] H2 = some (.val (.int .i64 (n : Int)) H2) := by
    have := minN (P := Try.prog) (H := H2) (ts := [T.int, T.int]) (q := .i64) (a := many) (b := 20000)
    rw [hn] at this
    exact this
  have mn2 : xbuiltin Try.prog .min [T.int, T.int] [.int .i64 (n : Int), .int .i64 (tick : Int)] H2 = some (.val (.int .i64 (gone : Int)) H2) := by
    have := minN (P := Try.prog) (H := H2) (ts := [T.int, T.int]) (q := .i64) (a := n) (b := tick)
    rw [hgo] at this
    exact this
  obtain ⟨m3, E3, H3, e3, r3, u3⟩ := q_xPass ok2 r2 (tick : Int)
  have hp : passX 0 (tick : Int) = (0, tick) := by
    unfold passX
    rw [if_neg (by omega), if_neg (by omega), Int.toNat_natCast]
  rw [hp] at e3 r3
  have e3 : CC F.expire_Store_Pass [pt H.n, .int .i64 (tick : Int)] H2 = some (.int .i64 0, H3) := e3
  have r3 : StR H3 H.n m3 E3 (SM n) tick := r3
  have ok3 := u3.fr.ok ok2
  have hw : (wS (SM n) tick).length = gone := by rw [wS_len, SM_due, hgo]
  have e4 := q_Waiting r3
  rw [hw] at e4
  have e5 := q_xLen r3
  rw [SM_len, hw] at e5
  have hsub : ((n - gone : Nat) : Int) = (n : Int) - (gone : Int) := by omega
  rw [hsub] at e5
  obtain ⟨v6, m6, E6, H6, e6, rd6, r6, u6, _⟩ := q_xSweep ok3 r3 30000
  have h30 : (30000 : Int).toNat = 30000 := by omega
  have ht : (wS (SM n) tick).take (30000 : Int).toNat = wS (SM n) tick := by
    rw [h30]
    exact List.take_of_length_le (by rw [hw]; omega)
  rw [if_neg (by decide), ht] at rd6 r6
  rw [if_neg (by decide)] at e6
  have hl6 := rd6.lenS
  rw [hw] at hl6
  have ok6 := u6.fr.ok ok3
  rw [sweep_all r3.srt] at r6
  have hw6 : wS ((SM n).filter fun x => !dueB tick x) tick = [] := wS_none fun x hx => by
    have := (List.mem_filter.1 hx).2
    simpa using this
  have hlen6 : ((SM n).filter fun x => !dueB tick x).length = n - gone := by
    have h := alive_len r3.srt tick
    rw [SM_len, hw] at h
    rw [← h]
    unfold aliveS pl
    rw [List.filter_map, List.length_map]
    congr 1
    refine List.filter_congr fun x hx => ?_
    show _ = (!endB (SM n) tick x.key)
    rw [endB_mem r3.srt hx]
  have e7 := q_Waiting r6
  rw [hw6] at e7
  have e7 : CC F.expire_Store_Waiting [pt H.n] H6 = some (.int .i64 0, H6) := e7
  have e8 := q_xLen r6
  rw [hw6, hlen6] at e8
  have e8 : CC F.expire_Store_Len [pt H.n] H6 = some (.int .i64 ((n : Int) - (gone : Int)), H6) := by rw [← hsub]; exact e8
  obtain ⟨v9, H9, e9, o9, s9, _⟩ := q_xAlive ok6 r6
  have hl9 := o9.rd.lenS
  rw [alive_len r6.srt, hw6, hlen6] at hl9
  have hl9 : lenS v9 = some (.int .i64 ((n : Int) - (gone : Int))) := by rw [← hsub]; exact hl9
  obtain ⟨D, hD⟩ : ∃ D, (n : Int) - (gone : Int) = D := ⟨_, rfl⟩
  have hs1 : ∀ ox oy, xbin Try.prog .sub T.int ox oy (.int .i64 (n : Int)) (.int .i64 (gone : Int)) = some (.int .i64 D) := fun ox oy => by rw [sub_i64 (by omega), hD]
  rw [hD] at e5 e8 hl9
  refine any_of (H1 := H9) (d_law_ExpireMany _ _ H ?_)
  simp (disch := first | with_reducible rfl | assumption | omega | rfl | (simp only [go_sem]; first | done | omega)) only [go_sem, ↓reduceIte, reduceCtorEq, Nat.reduceEqDiff, Nat.reduceAdd, Nat.reduceSub, Nat.reduceMul, Nat.reduceDiv, Nat.reduceMod, Nat.reduceLeDiff, Nat.reduceLT, Nat.reduceBEq, Int.reduceEq, Int.reduceBEq, Int.reduceBNe, Int.reduceLT, Int.reduceLE, Int.reduceAdd, Int.reduceSub, Int.reduceNeg, Int.reduceToNat, Int.reducePow, Nat.reducePow, Int.reduceMul, Int.reduceDiv, ↓s_law_ExpireMany, h1, h2, h3, h4, hH1, bldS_nil, g1, ↓mn1, mn1, ↓mn2, mn2, ↓enterK_eq e3, enterK_eq e3, ↓enterK_eq e4, enterK_eq e4, ↓enterK_eq e5, enterK_eq e5, ↓hs1, hs1, ↓enterK_eq e6, enterK_eq e6, hl6, ↓enterK_eq e7, enterK_eq e7, ↓enterK_eq e8, enterK_eq e8, ↓enterK_eq e9, enterK_eq e9, hl9, e_known]

theorem run_ExpireMany (a b : Int) (_ : (Lit.int .i64 a).wf = true) (_ : (Lit.int .i64 b).wf = true) : ∃ k H', dCall Try.prog prims1 hints k F.law_ExpireMany [.int .i64 a, .int .i64 b] H0 = some (.bool true, H') := by
  obtain ⟨H', h⟩ := q_ExpireMany a b H0 H0_ok
  obtain ⟨k, h⟩ := D_run h
  exact ⟨k, _, h⟩

end Go.Proofs.Ythjjkinpbpealaa

/-
  Chapter 45: the law ExpireHolds: maps that are read as functions; a live store beside them; its calls.
  Conditions: none. By an AI agent.
-/
set_option maxRecDepth 10000
set_option linter.unusedSimpArgs false
set_option linter.unusedVariables false
namespace Go.Proofs.Ythjjkinpbpealaa
open Go Eng
attribute [local congr] bareK_congr' bothK_congr' quietK_congr'

/-! ### maps read as functions -/
section
variable {α : Type} {f : α → Value} {z : α} {H : AHeap} {b : Nat} {d : ByteArray → α} {t : TypeId}
def MV (f : α → Value) (z : α) (H : AHeap) (b : Nat) (d : ByteArray → α) : Prop :=
  b < H.n ∧ ∃ (ents : List (Value × Value)) (D : List (ByteArray × α)), H.f b = .map ents ∧ Ent (fun v a => v = f a) kStr.kv ents D ∧ ∀ k, (lkp D k).getD z = d k
def updF (d : ByteArray → α) (k : ByteArray) (a : α) (j : ByteArray) : α := if k = j then a else d j
theorem MV.look (m : MapT Try.prog kStr t (f z)) (h : MV f z H b d) (k : ByteArray) : xlookup Try.prog t (.map (some b)) (.string k) false H = some (f (d k)) := by
  obtain ⟨_, ents, D, h1, h2, h3⟩ := h
  rw [← h3 k]
  cases hk : lkp D k with
  | none => exact look_none m h1 h2 hk false
  | some a =>
    obtain ⟨v, hl, hv⟩ := look_some m h1 h2 hk false
    have hv : v = f a := hv
    subst hv
    exact hl
theorem MV.upd (m : MapT Try.prog kStr t (f z)) (h : MV f z H b d) (k : ByteArray) (a : α) : ∃ x, xmapUpdate Try.prog t (.map (some b)) (.string k) (f a) H = some (H.set b x) ∧ MV f z (H.set b x) b (updF d k a) := by
  obtain ⟨h0, ents, D, h1, h2, h3⟩ := h
  refine ⟨_, upd_map m h1 h2 k (f a), h0, _, Eng.putE D k a, set_f_eq, h2.put (R := fun v a => v = f a) (k := k) (a := a) rfl, fun j => ?_⟩
  unfold updF
  rw [lkp_put]
  split
  · rfl
  · exact h3 j
theorem MV.keep {X : Nat → Prop} {H' : AHeap} (h : MV f z H b d) (fr : Fr X H H') (hx : ¬ X b) : MV f z H' b d := by
  obtain ⟨h0, ents, D, h1, h2, h3⟩ := h
  have := fr.n
  exact ⟨by omega, ents, D, by rw [fr.f h0 hx]; exact h1, h2, h3⟩
theorem MV.make (H : AHeap) : MV f z (H.push (.map [])) H.n (fun _ => z) := ⟨Nat.lt_succ_self _, [], [], push_f_eq rfl, trivial, fun _ => rfl⟩
end
theorem mtB : MapT Try.prog kStr T.map_string_bool (.bool false) := ⟨_, _, Try.underlying42, by kernel_rfl, by kernel_rfl⟩

/-! ### the state of the law -/
structure UpH (c tb ub : Nat) (H H' : AHeap) : Prop where
  fr : Fr (fun b => OB H c b ∨ b = tb ∨ b = ub) H H'
  ob : ∀ b, OB H' c b → OB H c b ∨ H.n ≤ b
def Sep (c tb ub : Nat) (H : AHeap) (b : Nat) : Prop := b < H.n ∧ ¬ OB H c b ∧ b ≠ tb ∧ b ≠ ub
structure HI (c tb ub : Nat) (H : AHeap) (S : List En) (now : Nat) (d : ByteArray → Bool) (g : ByteArray → Int) : Prop where
  ok : Ok H
  st : ∃ m E, StR H c m E S now
  ed : MV Value.bool false H tb d
  en : MV (Value.int .i64) 0 H ub g
  ne : tb ≠ ub
  sd : ¬ OB H c tb
  su : ¬ OB H c ub

section
variable {c tb ub : Nat} {H H' H1 H2 : AHeap} {S S' : List En} {now now' : Nat} {d : ByteArray → Bool} {g : ByteArray → Int}
theorem HI.lt (h : HI c tb ub H S now d g) {b : Nat} (hb : OB H c b) : b < H.n := by
  obtain ⟨m, E, r⟩ := h.st
  exact r.lt hb
theorem HI.srt (h : HI c tb ub H S now d g) : Srt (pl S) := by
  obtain ⟨m, E, r⟩ := h.st
  exact r.srt
theorem HI.len (h : HI c tb ub H S now d g) : S.length ≤ 20000 := by
  obtain ⟨m, E, r⟩ := h.st
  exact r.len
theorem UpH.trans (hc : ∀ b, OB H c b → b < H.n) (a : UpH c tb ub H H1) (b : UpH c tb ub H1 H2) : UpH c tb ub H H2 := by
  have n1 := a.fr.n
  refine ⟨a.fr.then b.fr fun x hx h => ?_, fun x h => ?_⟩
  · rcases h with h | h
    · rcases a.ob x h with h | h
      · exact .inl h
      · omega
    · exact .inr h
  · rcases b.ob x h with h | h
    · exact a.ob x h
    · exact .inr (by omega)
theorem UpH.refl (c tb ub : Nat) (H : AHeap) : UpH c tb ub H H := ⟨Fr.refl H, fun _ h => .inl h⟩
theorem Sep.up {b : Nat} (h : Sep c tb ub H b) (u : UpH c tb ub H H') : Sep c tb ub H' b := by
  obtain ⟨h1, h2, h3, h4⟩ := h
  have := u.fr.n
  exact ⟨by omega, fun hh => by
    rcases u.ob b hh with hh | hh
    · exact h2 hh
    · omega, h3, h4⟩
theorem Sep.f {b : Nat} (h : Sep c tb ub H b) (u : UpH c tb ub H H') : H'.f b = H.f b := u.fr.f h.1 fun hh => by
  obtain ⟨h1, h2, h3, h4⟩ := h
  rcases hh with hh | hh | hh
  · exact h2 hh
  · exact h3 hh
  · exact h4 hh
theorem Sep.rd {α : Type} {E : Enc α} {v : Value} {l : List α} (h : ∀ b, blockOf v = some b → Sep c tb ub H b) (u : UpH c tb ub H H') (r : Rd E H v l) : Rd E H' v l := r.keep u.fr fun b hb hh => by
  obtain ⟨h1, h2, h3, h4⟩ := h b hb
  rcases hh with hh | hh | hh
  · exact h2 hh
  · exact h3 hh
  · exact h4 hh
theorem HI.still (h : HI c tb ub H S now d g) (s : Still H H') : HI c tb ub H' S now d g ∧ UpH c tb ub H H' := by
  obtain ⟨m, E, r⟩ := h.st
  have hc : c < H.n := r.lt (.inl rfl)
  have ho : ∀ b, OB H' c b ↔ OB H c b := fun b => ob_still hc s fun h => h
  exact ⟨⟨s.ok h.ok, ⟨m, E, r.still s⟩, h.ed.keep s fun h => h, h.en.keep s fun h => h, h.ne, fun hh => h.sd ((ho _).1 hh), fun hh => h.su ((ho _).1 hh)⟩, s.still, fun b hb => .inl ((ho b).1 hb)⟩
theorem HI.new (h : HI c tb ub H S now d g) (s : Still H H') {b : Nat} (h1 : H.n ≤ b) (h2 : b < H'.n) : Sep c tb ub H' b := by
  obtain ⟨m, E, r⟩ := h.st
  have hc : c < H.n := r.lt (.inl rfl)
  have := h.ed.1
  have := h.en.1
  exact ⟨h2, fun hh => by
    have := r.lt ((ob_still hc s fun h => h).1 hh)
    omega, by omega, by omega⟩
theorem HI.up (h : HI c tb ub H S now d g) (u : UpX H c H') {m' : Option Nat} {E' : Ec} (r' : StR H' c m' E' S' now') : HI c tb ub H' S' now' d g ∧ UpH c tb ub H H' := by
  have h1 := h.ed.1
  have h2 := h.en.1
  exact ⟨⟨u.fr.ok h.ok, ⟨m', E', r'⟩, h.ed.keep u.fr h.sd, h.en.keep u.fr h.su, h.ne, fun hh => (u.ob _ hh).elim h.sd fun e => by omega, fun hh => (u.ob _ hh).elim h.su fun e => by omega⟩, u.fr.mono fun b _ hb => .inl hb, u.ob⟩
theorem HI.setD (h : HI c tb ub H S now d g) (k : ByteArray) (a : Bool) : ∃ H', xmapUpdate Try.prog T.map_string_bool (.map (some tb)) (.string k) (.bool a) H = some H' ∧ HI c tb ub H' S now (updF d k a) g ∧ UpH c tb ub H H' := by
  obtain ⟨x, e, mv⟩ := h.ed.upd mtB k a
  obtain ⟨m, E, r⟩ := h.st
  have hc : c < H.n := r.lt (.inl rfl)
  have fr : Fr (fun b => b = tb) H (H.set tb x) := (Fr.refl H).set _ _ fun _ => rfl
  have hct : ¬ c = tb := fun e => h.sd (e ▸ .inl rfl)
  have ho : ∀ b, OB (H.set tb x) c b ↔ OB H c b := fun b => ob_still hc fr hct
  exact ⟨_, e, ⟨fr.ok h.ok, ⟨m, E, r.keep fr fun b _ e hh => h.sd (e ▸ hh)⟩, mv, h.en.keep fr fun e => h.ne e.symm, h.ne, fun hh => h.sd ((ho _).1 hh), fun hh => h.su ((ho _).1 hh)⟩, fr.mono fun b _ e => .inr (.inl e), fun b hb => .inl ((ho b).1 hb)⟩
theorem HI.setG (h : HI c tb ub H S now d g) (k : ByteArray) (a : Int) : ∃ H', xmapUpdate Try.prog T.map_string_int (.map (some ub)) (.string k) (.int .i64 a) H = some H' ∧ HI c tb ub H' S now d (updF g k a) ∧ UpH c tb ub H H' := by
  obtain ⟨x, e, mv⟩ := h.en.upd mt k a
  obtain ⟨m, E, r⟩ := h.st
  have hc : c < H.n := r.lt (.inl rfl)
  have fr : Fr (fun b => b = ub) H (H.set ub x) := (Fr.refl H).set _ _ fun _ => rfl
  have hct : ¬ c = ub := fun e => h.su (e ▸ .inl rfl)
  have ho : ∀ b, OB (H.set ub x) c b ↔ OB H c b := fun b => ob_still hc fr hct
  exact ⟨_, e, ⟨fr.ok h.ok, ⟨m, E, r.keep fr fun b _ e hh => h.su (e ▸ hh)⟩, h.ed.keep fr fun e => h.ne e, mv, h.ne, fun hh => h.sd ((ho _).1 hh), fun hh => h.su ((ho _).1 hh)⟩, fr.mono fun b _ e => .inr (.inr e), fun b hb => .inl ((ho b).1 hb)⟩

/-! ### calls -/
def actX (S : List En) (now : Nat) (a : Act) : Int × List En × Nat :=
  if a.what = 0 then ((putX S now a.key a.val a.n).1, (putX S now a.key a.val a.n).2, now)
  else if a.what = 1 then ((extX S now a.key a.n).1, (extX S now a.key a.n).2, now)
  else if a.what = 2 then ((delX S now a.key).1, (delX S now a.key).2, now)
  else ((passX now a.n).1, S, (passX now a.n).2)

theorem q_callsX (h : HI c tb ub H S now d g) (a : Act) : ∃ H', CC F.law_calls [pt c, .agg ⟨EAct.enc a⟩] H = some (.int .i64 (actX S now a).1, H') ∧ HI c tb ub H' (actX S now a).2.1 (actX S now a).2.2 d g ∧ UpH c tb ub H H' := by
  obtain ⟨H1, hH1⟩ : ∃ H1, H.push (.cells (EAct.enc a) T.law_Act true) = H1 := ⟨_, rfl⟩
  have f1 : H1.f H.n = .cells [.int .i64 a.what, .string a.key, .string a.val, .int .i64 a.n] T.law_Act true := by rw [← hH1]; exact push_f_eq rfl
  have nw : newv T.law_Act (.agg ⟨EAct.enc a⟩) H = some (.pointer (some ⟨H.n, 0, none⟩), H1) := by rw [← hH1]; rfl
  have st : Still H H1 := by rw [← hH1]; exact (Fr.refl H).push _
  obtain ⟨m, E, r⟩ := h.st
  have hc : c < H.n := r.lt (.inl rfl)
  have r1 := r.still st
  have ok1 := st.ok h.ok
  have n1 := st.n
  have fin : ∀ {e : Int} {S' : List En} {now' : Nat} {m' : Option Nat} {E' : Ec} {H2 : AHeap}, StR H2 c m' E' S' now' → UpX H1 c H2 → s_law_calls guardK condL shareL Try.prog CC (pt c) (.agg ⟨EAct.enc a⟩) H (endK Try.prog [.tmp 4]) = some (.int .i64 e, H2) →
      ∃ H', CC F.law_calls [pt c, .agg ⟨EAct.enc a⟩] H = some (.int .i64 e, H') ∧ HI c tb ub H' S' now' d g ∧ UpH c tb ub H H' := fun {e S' now' m' E' H2} r2 u2 run => by
    have u : UpX H c H2 := ⟨st.still.then u2.fr fun b _ hb => (ob_still hc st fun h => h).1 hb, fun b hb => by
      rcases u2.ob b hb with hb | hb
      · exact .inl ((ob_still hc st fun h => h).1 hb)
      · exact .inr (by omega)⟩
    obtain ⟨m3, E3, H3, ht, r3, u3⟩ := tidyX (v := .int .i64 e) h.ok r r2 u
    obtain ⟨a1, a2⟩ := h.up u3 r3
    exact ⟨H3, (d_law_calls _ _ H run).trans (congrArg some ht), a1, a2⟩
  unfold actX
  by_cases h0 : a.what = 0
  · obtain ⟨m', E', H2, e1, r2, u2⟩ := q_xPut ok1 r1 a.key a.val a.n
    rw [if_pos h0]
    refine fin r2 u2 ?_
    simp (disch := first | with_reducible rfl | assumption | omega | rfl | (simp only [go_sem]; first | done | omega)) only [go_sem, ↓reduceIte, reduceCtorEq, Nat.reduceEqDiff, Nat.reduceAdd, Nat.reduceSub, Nat.reduceMul, Nat.reduceDiv, Nat.reduceMod, Nat.reduceLeDiff, Nat.reduceLT, Nat.reduceBEq, Int.reduceEq, Int.reduceBEq, Int.reduceBNe, Int.reduceLT, Int.reduceLE, Int.reduceAdd, Int.reduceSub, Int.reduceNeg, Int.reduceToNat, Int.reducePow, Nat.reducePow, Int.reduceMul, Int.reduceDiv, ↓s_law_calls, nw, f1, h0, ↓enterK_eq e1, enterK_eq e1]
  · rw [if_neg h0]
    by_cases h1 : a.what = 1
    · obtain ⟨m', E', H2, e1, r2, u2⟩ := q_xExtend ok1 r1 a.key a.n
      rw [if_pos h1]
      refine fin r2 u2 ?_
      simp (disch := first | with_reducible rfl | assumption | omega | rfl | (simp only [go_sem]; first | done | omega)) only [go_sem, ↓reduceIte, reduceCtorEq, Nat.reduceEqDiff, Nat.reduceAdd, Nat.reduceSub, Nat.reduceMul, Nat.reduceDiv, Nat.reduceMod, Nat.reduceLeDiff, Nat.reduceLT, Nat.reduceBEq, Int.reduceEq, Int.reduceBEq, Int.reduceBNe, Int.reduceLT, Int.reduceLE, Int.reduceAdd, Int.reduceSub, Int.reduceNeg, Int.reduceToNat, Int.reducePow, Nat.reducePow, Int.reduceMul, Int.reduceDiv, ↓s_law_calls, nw, f1, h0, h1, ↓enterK_eq e1, enterK_eq e1]
    · rw [if_neg h1]
      by_cases h2 : a.what = 2
      · obtain ⟨m', E', H2, e1, r2, u2⟩ := q_xDelete ok1 r1 a.key
        rw [if_pos h2]
        refine fin r2 u2 ?_
        simp (disch := first | with_reducible rfl | assumption | omega | rfl | (simp only [go_sem]; first | done | omega)) only [go_sem, ↓reduceIte, reduceCtorEq, Nat.reduceEqDiff, Nat.reduceAdd, Nat.reduceSub, Nat.reduceMul, Nat.reduceDiv, Nat.reduceMod, Nat.reduceLeDiff, Nat.reduceLT, Nat.reduceBEq, Int.reduceEq, Int.reduceBEq, Int.reduceBNe, Int.reduceLT, Int.reduceLE, Int.reduceAdd, Int.reduceSub, Int.reduceNeg, Int.reduceToNat, Int.reducePow, Nat.reducePow, Int.reduceMul, Int.reduceDiv, ↓s_law_calls, nw, f1, h0, h1, h2, ↓enterK_eq e1, enterK_eq e1]
      · rw [if_neg h2]
        obtain ⟨m', E', H2, e1, r2, u2⟩ := q_xPass ok1 r1 a.n
        refine fin r2 u2 ?_
        simp (disch := first | with_reducible rfl | assumption | omega | rfl | (simp only [go_sem]; first | done | omega)) only [go_sem, ↓reduceIte, reduceCtorEq, Nat.reduceEqDiff, Nat.reduceAdd, Nat.reduceSub, Nat.reduceMul, Nat.reduceDiv, Nat.reduceMod, Nat.reduceLeDiff, Nat.reduceLT, Nat.reduceBEq, Int.reduceEq, Int.reduceBEq, Int.reduceBNe, Int.reduceLT, Int.reduceLE, Int.reduceAdd, Int.reduceSub, Int.reduceNeg, Int.reduceToNat, Int.reducePow, Nat.reducePow, Int.reduceMul, Int.reduceDiv, ↓s_law_calls, nw, f1, h0, h1, h2, ↓enterK_eq e1, enterK_eq e1]
end

/-! ### what a call keeps -/
structure PI (S : List En) (now : Nat) (d : ByteArray → Bool) (g : ByteArray → Int) : Prop where
  en : ∀ x ∈ S, g x.key = (x.e : Int)
  ed : ∀ k, d k = true → (getX S now k).2.2 ≠ 0

section
variable {S S' : List En} {now now' : Nat} {d : ByteArray → Bool} {g : ByteArray → Int}
theorem getX_zero {k : ByteArray} {x : En} (hc : chk k [] = 0) (hg : getS S k = some x) (hb : endB S now k = false) : (getX S now k).2.2 = 0 := by
  unfold getX
  rw [if_neg (fun e => e hc), hg]
  show (if endB S now k = true then ((mk [], 0, 9) : ByteArray × Nat × Int) else (x.val, x.e, 0)).2.2 = 0
  rw [hb]
  rfl
theorem getX_sub {k : ByteArray} (hs : ∀ x, getS S' k = some x → getS S k = some x) (hn : now ≤ now') (h : (getX S' now' k).2.2 = 0) : (getX S now k).2.2 = 0 := by
  obtain ⟨h1, h2, x, h3, _⟩ := getX_ok h
  have h4 := hs x h3
  refine getX_zero h1 h4 ?_
  unfold endB at h2 ⊢
  rw [endOf_get, h3] at h2
  rw [endOf_get, h4]
  have h2 : (decide (0 < x.e) && decide (x.e ≤ now')) = false := h2
  show (decide (0 < x.e) && decide (x.e ≤ now)) = false
  simp only [Bool.and_eq_false_iff, decide_eq_false_iff_not] at h2 ⊢
  omega
theorem PI.sub (p : PI S now d g) (hm : ∀ x ∈ S', x ∈ S) (hs : Srt (pl S)) (hn : now ≤ now') : PI S' now' d g :=
  ⟨fun x hx => p.en x (hm x hx), fun k hk h => p.ed k hk (getX_sub (fun x hx => by
    obtain ⟨h1, h2⟩ := getS_key hx
    rw [← h1]
    exact getS_mem hs (hm x h2)) hn h)⟩
theorem PI.ins (p : PI S now d g) (hs : Srt (pl S)) {x : En} (hs' : Srt (pl (insR S x))) {n : Int} (hn : n = (x.e : Int)) {d' : ByteArray → Bool} (hd : ∀ k, d' k = true → d k = true ∧ ¬ x.key = k) : PI (insR S x) now d' (updF g x.key n) := by
  refine ⟨fun z hz => ?_, fun k hk h => ?_⟩
  · have h1 := getS_mem hs' hz
    rw [ins_get hs] at h1
    unfold updF
    by_cases e : x.key = z.key
    · rw [if_pos e] at h1 ⊢
      cases h1
      exact hn
    · rw [if_neg e] at h1 ⊢
      exact p.en z (getS_key h1).2
  · obtain ⟨h1, h2⟩ := hd k hk
    refine p.ed k h1 ?_
    have : getX (insR S x) now k = getX S now k := by
      unfold getX endB
      rw [ins_get hs, ins_end hs, if_neg h2, if_neg h2]
    rw [this] at h
    exact h

theorem putX_ne {k v : ByteArray} {n : Int} (h : (putX S now k v n).1 ≠ 0) : (putX S now k v n).2 = S := by
  unfold putX at h ⊢
  by_cases h1 : n < 0 ∨ 1099511627776 < n
  · rw [if_pos h1]
  by_cases h2 : chk k [v] ≠ 0
  · rw [if_neg h1, if_pos h2]
  by_cases h3 : 0 < n ∧ n ≤ now
  · rw [if_neg h1, if_neg h2, if_pos h3]
  by_cases h4 : (getS S k).isNone ∧ S.length = 20000
  · rw [if_neg h1, if_neg h2, if_neg h3, if_pos h4]
  rw [if_neg h1, if_neg h2, if_neg h3, if_neg h4] at h
  exact absurd rfl h
theorem putX_ok {k v : ByteArray} {n : Int} (h : (putX S now k v n).1 = 0) : 0 ≤ n ∧ (putX S now k v n).2 = insR S ⟨k, v, n.toNat⟩ := by
  unfold putX at h ⊢
  by_cases h1 : n < 0 ∨ 1099511627776 < n
  · rw [if_pos h1] at h; cases h
  by_cases h2 : chk k [v] ≠ 0
  · rw [if_neg h1, if_pos h2] at h; exact absurd h h2
  by_cases h3 : 0 < n ∧ n ≤ now
  · rw [if_neg h1, if_neg h2, if_pos h3] at h; cases h
  by_cases h4 : (getS S k).isNone ∧ S.length = 20000
  · rw [if_neg h1, if_neg h2, if_neg h3, if_pos h4] at h; cases h
  rw [if_neg h1, if_neg h2, if_neg h3, if_neg h4]
  exact ⟨by omega, rfl⟩
theorem extX_ne {k : ByteArray} {n : Int} (h : (extX S now k n).1 ≠ 0) : (extX S now k n).2 = S := by
  unfold extX at h ⊢
  by_cases h1 : n < 0 ∨ 1099511627776 < n
  · rw [if_pos h1]
  by_cases h2 : chk k [] ≠ 0
  · rw [if_neg h1, if_pos h2]
  by_cases h3 : 0 < n ∧ n ≤ now
  · rw [if_neg h1, if_neg h2, if_pos h3]
  by_cases h4 : endB S now k = true
  · rw [if_neg h1, if_neg h2, if_neg h3, if_pos h4]
  rw [if_neg h1, if_neg h2, if_neg h3, if_neg h4] at h ⊢
  cases hg : getS S k with
  | none => rfl
  | some x => rw [hg] at h; exact absurd rfl h
theorem extX_ok {k : ByteArray} {n : Int} (h : (extX S now k n).1 = 0) : 0 ≤ n ∧ ∃ x, (extX S now k n).2 = insR S ⟨k, x, n.toNat⟩ ∧ (getX S now k).2.2 = 0 := by
  unfold extX at h ⊢
  by_cases h1 : n < 0 ∨ 1099511627776 < n
  · rw [if_pos h1] at h; cases h
  by_cases h2 : chk k [] ≠ 0
  · rw [if_neg h1, if_pos h2] at h; exact absurd h h2
  by_cases h3 : 0 < n ∧ n ≤ now
  · rw [if_neg h1, if_neg h2, if_pos h3] at h; cases h
  by_cases h4 : endB S now k = true
  · rw [if_neg h1, if_neg h2, if_neg h3, if_pos h4] at h; cases h
  rw [if_neg h1, if_neg h2, if_neg h3, if_neg h4] at h ⊢
  cases hg : getS S k with
  | none => rw [hg] at h; cases h
  | some x => exact ⟨by omega, x.val, rfl, getX_zero (by simpa using h2) hg (by simpa using h4)⟩

theorem alive_eq (hs : Srt (pl S)) (now : Nat) : aliveS S now = pl (S.filter fun x => !dueB now x) := by
  unfold aliveS pl
  rw [List.filter_map]
  congr 1
  refine List.filter_congr fun x hx => ?_
  show (!endB S now x.key) = _
  rw [endB_mem hs hx]
theorem alive_filter (hs : Srt (pl S)) (p : En → Bool) (hp : Srt (pl (S.filter p))) (hn : now ≤ now') : (aliveS (S.filter p) now').length ≤ (aliveS S now).length := by
  rw [alive_eq hs, alive_eq hp]
  unfold pl
  rw [List.length_map, List.length_map, List.filter_filter]
  have e : S.filter (fun x => !dueB now' x && p x) = (S.filter fun x => !dueB now x).filter (fun x => !dueB now' x && p x) := by
    rw [List.filter_filter]
    refine List.filter_congr fun x _ => ?_
    unfold dueB
    by_cases h1 : 0 < x.e
    · by_cases h2 : x.e ≤ now'
      · simp [h1, h2]
      · have h3 : ¬ x.e ≤ now := by omega
        simp [h1, h2, h3]
    · simp [h1]
  rw [e]
  exact List.length_filter_le _ _
theorem alive_sweep (hs : Srt (pl S)) (n : Nat) : aliveS (sweepS S ((wS S now).take n)) now = aliveS S now := by
  have hs' := sweep_srt ((wS S now).take n) hs
  rw [alive_eq hs', alive_eq hs, sweep_filter _ hs, List.filter_filter]
  congr 1
  refine List.filter_congr fun x hx => ?_
  cases hd : dueB now x with
  | true => rfl
  | false =>
    rw [Bool.not_false, Bool.true_and, List.all_eq_true]
    intro k hk
    obtain ⟨y, hy, rfl, h1, h2⟩ := wS_mem.1 (List.mem_of_mem_take hk)
    have : ¬ x.key = y.key := fun e => by
      have := key_uniq hs hx hy e
      subst this
      unfold dueB at hd
      simp [h1, h2] at hd
    simp [this]
end

end Go.Proofs.Ythjjkinpbpealaa

/-
  Chapter 45: the law's own model: its keys; find, alive, without.
  Conditions: none. By an AI agent.
-/
set_option maxRecDepth 10000
set_option linter.unusedSimpArgs false
set_option linter.unusedVariables false
namespace Go.Proofs.Ythjjkinpbpealaa
open Go Eng
attribute [local congr] bareK_congr' bothK_congr' quietK_congr'

def EEn : Enc En := ⟨3, fun x => [.string x.key, .string x.val, .int .i64 (x.e : Int)], fun _ => rfl, by decide, fun _ => rfl⟩

theorem rd_of_own {α : Type} {E : Enc α} {H : AHeap} {e : TypeId} {v : Value} {l : List α} (o : Own E H e v l) : Rd E H v l := o.rd

/-! ### rows of entries: one more in the middle, one fewer -/
section
variable {H : AHeap} {v : Value} {l : List En}
theorem still_nil {H H' : AHeap} (fr : Fr (OnlyOf (.slice none 0 0)) H H') : Still H H' := fr.mono fun c _ h => by unfold OnlyOf at h; cases h
theorem ent_ins (o : Own EEn H T.law_Entry v l) (hl : l.length ≤ 1000000) {k : Nat} (hk : k ≤ l.length) (x : En) : ∃ H1 v1 w2 H2 v2 w3 H3 w4 H4,
    H.push (.cells [.string x.key, .string x.val, .int .i64 (x.e : Int)] T.law_Entry true) = H1 ∧
    slS T.law_Entry 3 v (some (.int .i64 (k : Int))) none none H1 = some v1 ∧
    app T.law_Entry 3 40 (.slice (some ⟨H.n, 0, none⟩) 1 2) (srcS 3 v1 H1) H1 = some (w2, H2) ∧
    slS T.law_Entry 3 v none (some (.int .i64 (k : Int))) none H2 = some v2 ∧
    app T.law_Entry 3 40 (.slice none 0 0) (srcS 3 v2 H2) H2 = some (w3, H3) ∧
    app T.law_Entry 3 40 w3 (srcS 3 w2 H3) H3 = some (w4, H4) ∧
    Own EEn H4 T.law_Entry w4 (l.take k ++ x :: l.drop k) ∧ Still H H4 ∧ Still H H3 ∧ Still H H2 ∧ Still H H1 ∧ ∀ b, blockOf w4 = some b → H.n ≤ b := by
  obtain ⟨H1, hH1⟩ : ∃ H1, H.push (.cells [.string x.key, .string x.val, .int .i64 (x.e : Int)] T.law_Entry true) = H1 := ⟨_, rfl⟩
  have s1 : Still H H1 := by rw [← hH1]; exact (Fr.refl H).push _
  have n1 : H1.n = H.n + 1 := by rw [← hH1]; rfl
  have f1 : H1.f H.n = .cells [.string x.key, .string x.val, .int .i64 (x.e : Int)] T.law_Entry true := by rw [← hH1]; exact push_f_eq rfl
  have o1 := o.still s1
  obtain ⟨v1, hs1, od, _⟩ := o1.drop (sz := 3) rfl hk (q := .i64)
  have rl : Rd EEn H1 (.slice (some ⟨H.n, 0, none⟩) 1 (2 * 1)) [x] := .inr (.inr ⟨H.n, 0, _, rfl, by simp, by omega, by rw [f1]; rfl⟩)
  obtain ⟨w2, H2, ha2, r2, s2, _⟩ := rl.appX (e := T.law_Entry) (m := l.drop k) (sz := 3) (bytes := 40) rfl (by simp; omega) (by simp; omega) (od.rd.src (sz := 3) rfl) (by simp)
  have o2 := o1.still s2
  obtain ⟨v2, hs2, rt⟩ := o2.hi (sz := 3) rfl hk (q := .i64)
  obtain ⟨w3, H3, ha3, o3, fr3, hb3⟩ := (Own.nil (E := EEn) (H := H2) (e := T.law_Entry)).appE (m := l.take k) (sz := 3) (bytes := 40) rfl (by simp; omega) (by simp; omega) (rt.src (sz := 3) rfl)
  have s3 := still_nil fr3
  rw [List.nil_append] at o3
  obtain ⟨w4, H4, ha4, o4, fr4, hb4⟩ := o3.appE (m := x :: l.drop k) (sz := 3) (bytes := 40) rfl (by simp; omega) (by simp; omega) ((r2.still s3).src (sz := 3) rfl)
  have k2 := s2.n
  have k3 := s3.n
  have k4 := fr4.n
  have hb3' : ∀ b, blockOf w3 = some b → H.n ≤ b := fun b hb => by
    rcases hb3 with h | h
    · rw [h] at hb; cases hb
    · rw [h] at hb; cases hb; omega
  have hb4' : ∀ b, blockOf w4 = some b → H.n ≤ b := fun b hb => by
    rcases hb4 with h | h
    · rw [h] at hb; exact hb3' b hb
    · rw [h] at hb; cases hb; omega
  have t2 : Still H H2 := s1.trans s2
  have t3 : Still H H3 := t2.trans s3
  have t4 : Still H H4 := t3.then fr4 fun b hb h => by unfold OnlyOf at h; have := hb3' b h; omega
  exact ⟨H1, v1, w2, H2, v2, w3, H3, w4, H4, hH1, hs1, ha2, hs2, ha3, ha4, o4, t4, t3, t2, s1, hb4'⟩
theorem ent_del (o : Own EEn H T.law_Entry v l) (hl : l.length ≤ 1000000) {k : Nat} (hk : k < l.length) : ∃ v1 w1 H1 v2 w2 H2,
    slS T.law_Entry 3 v none (some (.int .i64 (k : Int))) none H = some v1 ∧
    app T.law_Entry 3 40 (.slice none 0 0) (srcS 3 v1 H) H = some (w1, H1) ∧
    slS T.law_Entry 3 v (some (.int .i64 ((k : Int) + 1))) none none H1 = some v2 ∧
    app T.law_Entry 3 40 w1 (srcS 3 v2 H1) H1 = some (w2, H2) ∧
    Own EEn H2 T.law_Entry w2 (l.take k ++ l.drop (k + 1)) ∧ Still H H1 ∧ Still H H2 ∧ (∀ b, blockOf v2 = some b → blockOf v = some b) ∧ ∀ b, blockOf w2 = some b → H.n ≤ b := by
  obtain ⟨v1, hs1, rt⟩ := o.hi (sz := 3) rfl (Nat.le_of_lt hk) (q := .i64)
  obtain ⟨w1, H1, ha1, o1, fr1, hb1⟩ := (Own.nil (E := EEn) (H := H) (e := T.law_Entry)).appE (m := l.take k) (sz := 3) (bytes := 40) rfl (by simp; omega) (by simp; omega) (rt.src (sz := 3) rfl)
  have s1 := still_nil fr1
  rw [List.nil_append] at o1
  obtain ⟨v2, hs2, od, hbd⟩ := (o.still s1).drop (sz := 3) rfl (show k + 1 ≤ l.length by omega) (q := .i64)
  obtain ⟨w2, H2, ha2, o2, fr2, hb2⟩ := o1.appE (m := l.drop (k + 1)) (sz := 3) (bytes := 40) rfl (by simp; omega) (by simp; omega) (od.rd.src (sz := 3) rfl)
  have k1 := s1.n
  have k2 := fr2.n
  have hb1' : ∀ b, blockOf w1 = some b → H.n ≤ b := fun b hb => by
    rcases hb1 with h | h
    · rw [h] at hb; cases hb
    · rw [h] at hb; cases hb; omega
  have hb2' : ∀ b, blockOf w2 = some b → H.n ≤ b := fun b hb => by
    rcases hb2 with h | h
    · rw [h] at hb; exact hb1' b hb
    · rw [h] at hb; cases hb; omega
  exact ⟨v1, w1, H1, v2, w2, H2, hs1, ha1, hs2, ha2, o2, s1, s1.then fr2 fun b hb h => by unfold OnlyOf at h; have := hb1' b h; omega, fun b hb => (by rw [← hbd]; exact hb), hb2'⟩
end

/-! ### the model -/
def LM (H : AHeap) (mb : Nat) (S : List En) (now : Nat) : Prop := mb < H.n ∧ ∃ v, H.f mb = .cells [v, .int .i64 (now : Int)] T.law_Model true ∧ Own EEn H T.law_Entry v S ∧ blockOf v ≠ some mb
/-- The blocks of a model. -/
def LB (H : AHeap) (mb : Nat) (b : Nat) : Prop := b = mb ∨ ∃ v n, H.f mb = .cells [v, n] T.law_Model true ∧ blockOf v = some b
def findE : List En → ByteArray → Nat → Int
  | [], _, _ => -1
  | x :: l, k, i => if x.key = k then (i : Int) else findE l k (i + 1)
theorem findE_spec : ∀ (l : List En) (k : ByteArray) (i : Nat), (findE l k i = -1 ∧ getS l k = none ∧ delR l k = l) ∨ ∃ j x, findE l k i = ((i + j : Nat) : Int) ∧ j < l.length ∧ l[j]? = some x ∧ getS l k = some x ∧ delR l k = l.take j ++ l.drop (j + 1)
  | [], _, _ => .inl ⟨rfl, rfl, rfl⟩
  | x :: l, k, i => by
    rw [findE, getS, delR]
    by_cases h : x.key = k
    · rw [if_pos h, if_pos h, if_pos h]
      exact .inr ⟨0, x, by simp, by simp, by simp, rfl, by simp⟩
    · rw [if_neg h, if_neg h, if_neg h]
      rcases findE_spec l k (i + 1) with ⟨a, b, c⟩ | ⟨j, y, a, b, c, d, e⟩
      · exact .inl ⟨a, b, by rw [c]⟩
      · exact .inr ⟨j + 1, y, by rw [a]; congr 1; omega, by simp; omega, by simpa using c, d, by rw [e]; simp⟩

section
variable {H : AHeap} {mb : Nat} {S : List En} {now : Nat}
theorem LM.keep {X : Nat → Prop} {H' : AHeap} (r : LM H mb S now) (fr : Fr X H H') (hx : ∀ b, X b → ¬ LB H mb b) : LM H' mb S now := by
  obtain ⟨h1, v, h2, h3, h4⟩ := r
  have := fr.n
  exact ⟨by omega, v, by rw [fr.f h1 fun h => hx mb h (.inl rfl)]; exact h2, h3.keep fr fun b hb h => hx b h (.inr ⟨v, _, h2, hb⟩), h4⟩
theorem LM.still {H' : AHeap} (r : LM H mb S now) (fr : Still H H') : LM H' mb S now := r.keep fr fun _ h => h.elim
theorem LM.lt (r : LM H mb S now) {b : Nat} (h : LB H mb b) : b < H.n := by
  obtain ⟨h1, v, h2, h3, h4⟩ := r
  rcases h with rfl | ⟨u, n, hu, hb⟩
  · exact h1
  · rw [h2] at hu
    cases hu
    exact h3.blk hb
theorem lb_still {H' : AHeap} {X : Nat → Prop} (h : mb < H.n) (fr : Fr X H H') (hx : ¬ X mb) {b : Nat} : LB H' mb b ↔ LB H mb b := by
  unfold LB
  rw [fr.f h hx]

theorem drop_en {l m : List En} {a : En} {i : Nat} (h : l.drop i = a :: m) : ∃ hi : i < l.length, l[i] = a ∧ l.drop (i + 1) = m := by
  have hi : i < l.length := by
    by_cases hi : i < l.length
    · exact hi
    · rw [List.drop_eq_nil_of_le (by omega)] at h; cases h
  rw [List.drop_eq_getElem_cons hi] at h
  cases h
  exact ⟨hi, rfl, rfl⟩
theorem l_mfind {v n : Value} (hf : H.f mb = .cells [v, n] T.law_Model true) (rd : Rd EEn H v S) (hl : S.length ≤ 1000000) (key : ByteArray) (K : K) : ∀ (q : List En) (i : Nat), S.drop i = q → i ≤ S.length →
    l_law_Model_find_0 (pt mb) (.string key) (.int .i64 (i : Int)) H (blkK [] 0 (seqK (fun _ h2 => K .ret [(4, .int .i64 (-1))] h2) K)) = K .ret [(4, .int .i64 (findE q key i))] H
  | [], i, hd, hi => by
    have h : S.length ≤ i := List.drop_eq_nil_iff.1 hd
    have hlt : ¬ (i : Int) < (S.length : Int) := by omega
    have hlen := rd.lenS
    rw [r_law_Model_find_0]
    simp (disch := first | with_reducible rfl | assumption | omega | rfl | (simp only [go_sem]; first | done | omega)) only [go_sem, ↓reduceIte, reduceCtorEq, Nat.reduceEqDiff, Nat.reduceAdd, Nat.reduceSub, Nat.reduceMul, Nat.reduceDiv, Nat.reduceMod, Nat.reduceLeDiff, Nat.reduceLT, Nat.reduceBEq, Int.reduceEq, Int.reduceBEq, Int.reduceBNe, Int.reduceLT, Int.reduceLE, Int.reduceAdd, Int.reduceSub, Int.reduceNeg, Int.reduceToNat, Int.reducePow, Nat.reducePow, Int.reduceMul, Int.reduceDiv, ↓s_law_Model_find_b0, hf, hlen, hlt, findE]
  | a :: q, i, hd, hi => by
    obtain ⟨h, ha, hd'⟩ := drop_en hd
    have hlt : (i : Int) < (S.length : Int) := by omega
    have hlen := rd.lenS
    obtain ⟨bb, o, ix, hbn, hcc, hbl⟩ := rd.ix (q := .i64) h
    have ix : ixS 3 v (.int .i64 i) = some (.pointer (some ⟨bb, o, none⟩)) := ix
    rw [ha] at hcc
    have c0 : cellB (H.f bb) o = some (.string a.key) := cutB_cell hcc (i := 0) (by decide)
    have ih := l_mfind hf rd hl key K q (i + 1) hd' (by omega)
    rw [Int.natCast_add] at ih
    rw [r_law_Model_find_0, findE]
    by_cases he : a.key = key
    · rw [if_pos he]
      have he' : bl a.key = bl key := by rw [he]
      simp (disch := first | with_reducible rfl | assumption | omega | rfl | (simp only [go_sem]; first | done | omega)) only [go_sem, ↓reduceIte, reduceCtorEq, Nat.reduceEqDiff, Nat.reduceAdd, Nat.reduceSub, Nat.reduceMul, Nat.reduceDiv, Nat.reduceMod, Nat.reduceLeDiff, Nat.reduceLT, Nat.reduceBEq, Int.reduceEq, Int.reduceBEq, Int.reduceBNe, Int.reduceLT, Int.reduceLE, Int.reduceAdd, Int.reduceSub, Int.reduceNeg, Int.reduceToNat, Int.reducePow, Nat.reducePow, Int.reduceMul, Int.reduceDiv, ↓s_law_Model_find_b0, hf, hlen, hlt, ix, c0, decide_eq_true he']
    · rw [if_neg he]
      have he' : ¬ bl a.key = bl key := fun e => he (ByteArray.ext (Array.toList_inj.1 e))
      simp (disch := first | with_reducible rfl | assumption | omega | rfl | (simp only [go_sem]; first | done | omega)) only [go_sem, ↓reduceIte, reduceCtorEq, Nat.reduceEqDiff, Nat.reduceAdd, Nat.reduceSub, Nat.reduceMul, Nat.reduceDiv, Nat.reduceMod, Nat.reduceLeDiff, Nat.reduceLT, Nat.reduceBEq, Int.reduceEq, Int.reduceBEq, Int.reduceBNe, Int.reduceLT, Int.reduceLE, Int.reduceAdd, Int.reduceSub, Int.reduceNeg, Int.reduceToNat, Int.reducePow, Nat.reducePow, Int.reduceMul, Int.reduceDiv, ↓s_law_Model_find_b0, hf, hlen, hlt, ix, c0, decide_eq_false he']
      exact ih
theorem q_mfind (r : LM H mb S now) (hl : S.length ≤ 1000000) (key : ByteArray) : CC F.law_Model_find [pt mb, .string key] H = some (.int .i64 (findE S key 0), H) := by
  obtain ⟨h1, v, h2, h3, h4⟩ := r
  have hloop := l_mfind h2 h3.rd hl key (endK Try.prog [.tmp 4]) S 0 rfl (by omega)
  apply pure_of _ (d_law_Model_find _ _ H) rfl
  rotate_left 2
  · simp (disch := first | with_reducible rfl | assumption | omega | rfl | (simp only [go_sem]; first | done | omega)) only [go_sem, ↓reduceIte, reduceCtorEq, Nat.reduceEqDiff, Nat.reduceAdd, Nat.reduceSub, Nat.reduceMul, Nat.reduceDiv, Nat.reduceMod, Nat.reduceLeDiff, Nat.reduceLT, Nat.reduceBEq, Int.reduceEq, Int.reduceBEq, Int.reduceBNe, Int.reduceLT, Int.reduceLE, Int.reduceAdd, Int.reduceSub, Int.reduceNeg, Int.reduceToNat, Int.reducePow, Nat.reducePow, Int.reduceMul, Int.reduceDiv, ↓s_law_Model_find]
    exact hloop
  · (repeat (first | exact Fr.refl _ | refine Fr.push ?_ _ | refine Fr.set ?_ _ _ (by intro h; first | omega | (simp only [go_sem] at h; omega))))

theorem q_malive_no (n : Int) (hn : n < 0) (H : AHeap) : CC F.law_Model_alive [pt mb, .int .i64 n] H = some (.bool false, H) := by
  have h : ¬ (0 : Int) ≤ n := by omega
  apply pure_of _ (d_law_Model_alive _ _ H) rfl
  rotate_left 2
  · simp (disch := first | with_reducible rfl | assumption | omega | rfl | (simp only [go_sem]; first | done | omega)) only [go_sem, ↓reduceIte, reduceCtorEq, Nat.reduceEqDiff, Nat.reduceAdd, Nat.reduceSub, Nat.reduceMul, Nat.reduceDiv, Nat.reduceMod, Nat.reduceLeDiff, Nat.reduceLT, Nat.reduceBEq, Int.reduceEq, Int.reduceBEq, Int.reduceBNe, Int.reduceLT, Int.reduceLE, Int.reduceAdd, Int.reduceSub, Int.reduceNeg, Int.reduceToNat, Int.reducePow, Nat.reducePow, Int.reduceMul, Int.reduceDiv, ↓s_law_Model_alive, h]
    rfl
  · (repeat (first | exact Fr.refl _ | refine Fr.push ?_ _ | refine Fr.set ?_ _ _ (by intro h; first | omega | (simp only [go_sem] at h; omega))))
theorem q_malive (r : LM H mb S now) {j : Nat} {x : En} (hj : j < S.length) (hx : S[j] = x) : CC F.law_Model_alive [pt mb, .int .i64 (j : Int)] H = some (.bool (!dueB now x), H) := by
  obtain ⟨h1, v, h2, h3, h4⟩ := r
  obtain ⟨bb, o, ix, hbn, hcc, hbl⟩ := h3.rd.ix (q := .i64) hj
  have ix : ixS 3 v (.int .i64 j) = some (.pointer (some ⟨bb, o, none⟩)) := ix
  rw [hx] at hcc
  have c2 : cellB (H.f bb) (o + 2) = some (.int .i64 (x.e : Int)) := cutB_cell hcc (i := 2) (by decide)
  have h0 : (0 : Int) ≤ (j : Int) := by omega
  unfold dueB
  by_cases c1 : x.e = 0
  · have c1' : (x.e : Int) = 0 := by omega
    have : (!(decide (0 < x.e) && decide (x.e ≤ now))) = true := by simp [c1]
    rw [this]
    apply pure_of _ (d_law_Model_alive _ _ H) rfl
    rotate_left 2
    · simp (disch := first | with_reducible rfl | assumption | omega | rfl | (simp only [go_sem]; first | done | omega)) only [go_sem, ↓reduceIte, reduceCtorEq, Nat.reduceEqDiff, Nat.reduceAdd, Nat.reduceSub, Nat.reduceMul, Nat.reduceDiv, Nat.reduceMod, Nat.reduceLeDiff, Nat.reduceLT, Nat.reduceBEq, Int.reduceEq, Int.reduceBEq, Int.reduceBNe, Int.reduceLT, Int.reduceLE, Int.reduceAdd, Int.reduceSub, Int.reduceNeg, Int.reduceToNat, Int.reducePow, Nat.reducePow, Int.reduceMul, Int.reduceDiv, ↓s_law_Model_alive, h0, h2, ix, c2, c1']
      rfl
    · (repeat (first | exact Fr.refl _ | refine Fr.push ?_ _ | refine Fr.set ?_ _ _ (by intro h; first | omega | (simp only [go_sem] at h; omega))))
  · have c1' : ¬ (x.e : Int) = 0 := by omega
    by_cases c3 : x.e ≤ now
    · have c3' : ¬ (now : Int) < (x.e : Int) := by omega
      have : (!(decide (0 < x.e) && decide (x.e ≤ now))) = false := by simp [c3]; omega
      rw [this]
      apply pure_of _ (d_law_Model_alive _ _ H) rfl
      rotate_left 2
      · simp (disch := first | with_reducible rfl | assumption | omega | rfl | (simp only [go_sem]; first | done | omega)) only [go_sem, ↓reduceIte, reduceCtorEq, Nat.reduceEqDiff, Nat.reduceAdd, Nat.reduceSub, Nat.reduceMul, Nat.reduceDiv, Nat.reduceMod, Nat.reduceLeDiff, Nat.reduceLT, Nat.reduceBEq, Int.reduceEq, Int.reduceBEq, Int.reduceBNe, Int.reduceLT, Int.reduceLE, Int.reduceAdd, Int.reduceSub, Int.reduceNeg, Int.reduceToNat, Int.reducePow, Nat.reducePow, Int.reduceMul, Int.reduceDiv, ↓s_law_Model_alive, h0, h2, ix, c2, c1', c3']
        rfl
      · (repeat (first | exact Fr.refl _ | refine Fr.push ?_ _ | refine Fr.set ?_ _ _ (by intro h; first | omega | (simp only [go_sem] at h; omega))))
    · have c3' : (now : Int) < (x.e : Int) := by omega
      have : (!(decide (0 < x.e) && decide (x.e ≤ now))) = true := by simp [c3]
      rw [this]
      apply pure_of _ (d_law_Model_alive _ _ H) rfl
      rotate_left 2
      · simp (disch := first | with_reducible rfl | assumption | omega | rfl | (simp only [go_sem]; first | done | omega)) only [go_sem, ↓reduceIte, reduceCtorEq, Nat.reduceEqDiff, Nat.reduceAdd, Nat.reduceSub, Nat.reduceMul, Nat.reduceDiv, Nat.reduceMod, Nat.reduceLeDiff, Nat.reduceLT, Nat.reduceBEq, Int.reduceEq, Int.reduceBEq, Int.reduceBNe, Int.reduceLT, Int.reduceLE, Int.reduceAdd, Int.reduceSub, Int.reduceNeg, Int.reduceToNat, Int.reducePow, Nat.reducePow, Int.reduceMul, Int.reduceDiv, ↓s_law_Model_alive, h0, h2, ix, c2, c1', c3']
        rfl
      · (repeat (first | exact Fr.refl _ | refine Fr.push ?_ _ | refine Fr.set ?_ _ _ (by intro h; first | omega | (simp only [go_sem] at h; omega))))
end

end Go.Proofs.Ythjjkinpbpealaa

/-
  Chapter 45: the law's own model: without, put, bad, do.
  Conditions: none. By an AI agent.
-/
set_option maxRecDepth 10000
set_option linter.unusedSimpArgs false
set_option linter.unusedVariables false
namespace Go.Proofs.Ythjjkinpbpealaa
open Go Eng
attribute [local congr] bareK_congr' bothK_congr' quietK_congr'

theorem tidiedG {α : Type} {E : Enc α} {e : TypeId} {H H' : AHeap} {v : Value} {l : List α} (ho : Own E H' e v l) (hs : Still H H') {x : Res} (hx : x = some (tidy H (v, H'))) :
    ∃ H'', x = some (v, H'') ∧ Own E H'' e v l ∧ Still H H'' := by
  unfold tidy at hx
  split at hx
  · rename_i hg
    simp only [Bool.and_eq_true] at hg
    refine ⟨H, hx, ?_, Fr.refl _⟩
    rcases ho with h | ⟨_, a, h, _⟩ | ⟨b, o, c, xs, h, _⟩
    · exact .inl h
    · rw [h] at hg; exact absurd hg.1 (by simp [gr])
    · rw [h] at hg; exact absurd hg.1 (by simp [gr])
  · exact ⟨H', hx, ho, hs⟩

def posK : List En → ByteArray → Nat
  | [], _ => 0
  | x :: l, k => if cmpS x.key k < 0 then posK l k + 1 else 0
theorem posK_le : ∀ (l : List En) (k : ByteArray), posK l k ≤ l.length
  | [], _ => Nat.le_refl _
  | x :: l, k => by
    rw [posK]
    have := posK_le l k
    split <;> simp <;> omega
theorem del_none {S : List En} {k : ByteArray} (h : getS S k = none) : delR S k = S := by
  induction S with
  | nil => rfl
  | cons z S ih =>
    rw [getS] at h
    by_cases hz : z.key = k
    · rw [if_pos hz] at h; cases h
    · rw [if_neg hz] at h
      rw [delR, if_neg hz, ih h]
theorem ins_del : ∀ {S : List En}, Srt (pl S) → ∀ (x : En), (delR S x.key).take (posK (delR S x.key) x.key) ++ x :: (delR S x.key).drop (posK (delR S x.key) x.key) = insR S x
  | [], _, x => rfl
  | y :: S, hs, x => by
    have hp := List.pairwise_cons.1 hs
    rw [delR, insR]
    by_cases h : cmpS y.key x.key < 0
    · have hne : y.key ≠ x.key := fun e => by rw [e, cmpS_self] at h; exact absurd h (by decide)
      rw [if_neg hne, if_pos h, posK, if_pos h, List.take_succ_cons, List.drop_succ_cons, List.cons_append, ins_del hp.2 x]
    · rw [if_neg h]
      by_cases hk : y.key = x.key
      · rw [if_pos hk, if_pos hk]
        have h0 : posK S x.key = 0 := by
          cases S with
          | nil => rfl
          | cons z S =>
            have h1 : cmpS y.key z.key < 0 := hp.1 (toP z) (by simp [pl])
            rw [posK, if_neg (fun h2 => ?_)]
            rw [hk] at h1
            exact absurd (cb_trans h1 h2) (by show ¬ cmpS x.key x.key < 0; rw [cmpS_self]; decide)
        rw [h0]
        rfl
      · rw [if_neg hk, if_neg hk]
        have hn := low_none hs h hk
        rw [del_none hn, posK, if_neg h]
        rfl

section
variable {H : AHeap} {mb : Nat} {S : List En} {now : Nat}
theorem q_mwithout_no (r : LM H mb S now) : ∃ v, CC F.law_Model_without [pt mb, .int .i64 (-1)] H = some (v, H) ∧ H.f mb = .cells [v, .int .i64 (now : Int)] T.law_Model true ∧ Own EEn H T.law_Entry v S ∧ ∀ b, blockOf v = some b → LB H mb b := by
  obtain ⟨h1, v, h2, h3, h4⟩ := r
  have h : (-1 : Int) < 0 := by decide
  refine ⟨v, ?_, h2, h3, fun b hb => .inr ⟨v, _, h2, hb⟩⟩
  have run : s_law_Model_without guardK condL shareL Try.prog CC (pt mb) (.int .i64 (-1)) H (endK Try.prog [.tmp 4]) = some (v, H) := by
    simp (disch := first | with_reducible rfl | assumption | omega | rfl | (simp only [go_sem]; first | done | omega)) only [go_sem, ↓reduceIte, reduceCtorEq, Nat.reduceEqDiff, Nat.reduceAdd, Nat.reduceSub, Nat.reduceMul, Nat.reduceDiv, Nat.reduceMod, Nat.reduceLeDiff, Nat.reduceLT, Nat.reduceBEq, Int.reduceEq, Int.reduceBEq, Int.reduceBNe, Int.reduceLT, Int.reduceLE, Int.reduceAdd, Int.reduceSub, Int.reduceNeg, Int.reduceToNat, Int.reducePow, Nat.reducePow, Int.reduceMul, Int.reduceDiv, ↓s_law_Model_without, h, h2]
  have h := d_law_Model_without _ _ H run
  have ht : tidy H (v, H) = (v, H) := by unfold tidy; split <;> rfl
  rw [ht] at h
  exact h
theorem q_mwithout (r : LM H mb S now) (hl : S.length ≤ 1000000) {j : Nat} (hj : j < S.length) : ∃ v H', CC F.law_Model_without [pt mb, .int .i64 (j : Int)] H = some (v, H') ∧ Own EEn H' T.law_Entry v (S.take j ++ S.drop (j + 1)) ∧ Still H H' ∧ ∀ b, blockOf v = some b → H.n ≤ b := by
  obtain ⟨h1, v, h2, h3, h4⟩ := r
  obtain ⟨v1, w1, H1, v2, w2, H2, e1, e2, e3, e4, o, s1, s2, hb2, nb⟩ := ent_del h3 hl hj
  have f1 : H1.f mb = .cells [v, .int .i64 (now : Int)] T.law_Model true := by rw [s1.f h1 fun h => h]; exact h2
  have h : ¬ (j : Int) < 0 := by omega
  have ck : ∀ r, (∀ k, r = some k → k < H.n) → okV (some true) r H H1 H1 H1 = true := fun r hr => by
    cases r with
    | none => exact okV_none (.inl s1.n)
    | some k => exact okV_some (.inr (s1.ver (hr k rfl) fun h => h)) (.inl s1.n)
  have ck0 := ck none (fun k h => by cases h)
  have ck1 := ck (some mb) (fun k h => by cases h; exact h1)
  have ck2 := ck (blockOf v) (fun k h => h3.blk h)
  unfold blockOf at ck2
  obtain ⟨H', a1, a2, a3⟩ := tidiedG (x := CC F.law_Model_without [pt mb, .int .i64 (j : Int)] H) o s2 (d_law_Model_without _ _ H (by
    simp (disch := first | with_reducible rfl | assumption | omega | rfl | (simp only [go_sem]; first | done | omega)) only [go_sem, ↓reduceIte, reduceCtorEq, Nat.reduceEqDiff, Nat.reduceAdd, Nat.reduceSub, Nat.reduceMul, Nat.reduceDiv, Nat.reduceMod, Nat.reduceLeDiff, Nat.reduceLT, Nat.reduceBEq, Int.reduceEq, Int.reduceBEq, Int.reduceBNe, Int.reduceLT, Int.reduceLE, Int.reduceAdd, Int.reduceSub, Int.reduceNeg, Int.reduceToNat, Int.reducePow, Nat.reducePow, Int.reduceMul, Int.reduceDiv, ↓s_law_Model_without, h, h2, f1, ↓e1, e1, ↓e2, e2, ↓e3, e3, ↓e4, e4, ck0, ck1, ck2]))
  exact ⟨w2, H', a1, a2, a3, nb⟩

/-- without of what find finds. -/
theorem q_mdel (r : LM H mb S now) (hl : S.length ≤ 1000000) (key : ByteArray) : ∃ v H', CC F.law_Model_without [pt mb, .int .i64 (findE S key 0)] H = some (v, H') ∧ Own EEn H' T.law_Entry v (delR S key) ∧ Still H H' ∧ ∀ b, blockOf v = some b → LB H mb b ∨ H.n ≤ b := by
  rcases findE_spec S key 0 with ⟨a, b, c⟩ | ⟨j, x, a, b, c, d, e⟩
  · rw [a, c]
    obtain ⟨v, e1, _, o, hb⟩ := q_mwithout_no r
    exact ⟨v, H, e1, o, Fr.refl H, fun b h => .inl (hb b h)⟩
  · rw [a, e, Nat.zero_add]
    obtain ⟨v, H', e1, o, s, nb⟩ := q_mwithout r hl b
    exact ⟨v, H', e1, o, s, fun b h => .inr (nb b h)⟩

/-- What a call of a model leaves. -/
structure UpM (H : AHeap) (mb : Nat) (H' : AHeap) : Prop where
  fr : Fr (fun b => b = mb) H H'
  lb : ∀ b, LB H' mb b → LB H mb b ∨ H.n ≤ b
theorem UpM.refl (H : AHeap) (mb : Nat) : UpM H mb H := ⟨Fr.refl H, fun _ h => .inl h⟩

theorem l_mput {x : En} {b3 : Nat} {v : Value} {l : List En} (fx : H.f b3 = .cells [.string x.key, .string x.val, .int .i64 (x.e : Int)] T.law_Entry true) (rd : Rd EEn H v l) (hl : l.length ≤ 1000000) (v0 : Value) (K : K) : ∀ (q : List En) (i : Nat), l.drop i = q → i ≤ l.length →
    l_law_Model_put_0 v0 (pt b3) v (.int .i64 (i : Int)) H (blkK [0, 3, 4, 5] 0 K) = K .normal [(0, v0), (3, pt b3), (4, v), (5, .int .i64 ((i + posK q x.key : Nat) : Int))] H
  | [], i, hd, hi => by
    have h : l.length ≤ i := List.drop_eq_nil_iff.1 hd
    have hlt : ¬ (i : Int) < (l.length : Int) := by omega
    have hlen := rd.lenS
    rw [r_law_Model_put_0]
    simp (disch := first | with_reducible rfl | assumption | omega | rfl | (simp only [go_sem]; first | done | omega)) only [go_sem, ↓reduceIte, reduceCtorEq, Nat.reduceEqDiff, Nat.reduceAdd, Nat.reduceSub, Nat.reduceMul, Nat.reduceDiv, Nat.reduceMod, Nat.reduceLeDiff, Nat.reduceLT, Nat.reduceBEq, Int.reduceEq, Int.reduceBEq, Int.reduceBNe, Int.reduceLT, Int.reduceLE, Int.reduceAdd, Int.reduceSub, Int.reduceNeg, Int.reduceToNat, Int.reducePow, Nat.reducePow, Int.reduceMul, Int.reduceDiv, ↓s_law_Model_put_b0, hlen, hlt, posK, Nat.add_zero]
  | a :: q, i, hd, hi => by
    obtain ⟨h, ha, hd'⟩ := drop_en hd
    have hlt : (i : Int) < (l.length : Int) := by omega
    have hlen := rd.lenS
    obtain ⟨bb, o, ix, hbn, hcc, hbl⟩ := rd.ix (q := .i64) h
    have ix : ixS 3 v (.int .i64 i) = some (.pointer (some ⟨bb, o, none⟩)) := ix
    rw [ha] at hcc
    have c0 : cellB (H.f bb) o = some (.string a.key) := cutB_cell hcc (i := 0) (by decide)
    rw [r_law_Model_put_0, posK]
    by_cases hc : cmpS a.key x.key < 0
    · have hc' : Op.bytesLess (bl a.key) (bl x.key) = true := cb_lt.2 hc
      have ih := l_mput fx rd hl v0 K q (i + 1) hd' (by omega)
      rw [if_pos hc, ← Nat.add_assoc, Nat.add_right_comm]
      generalize ((i + 1 + posK q x.key : Nat) : Int) = P at ih ⊢
      rw [Int.natCast_add] at ih
      simp (disch := first | with_reducible rfl | assumption | omega | rfl | (simp only [go_sem]; first | done | omega)) only [go_sem, ↓reduceIte, reduceCtorEq, Nat.reduceEqDiff, Nat.reduceAdd, Nat.reduceSub, Nat.reduceMul, Nat.reduceDiv, Nat.reduceMod, Nat.reduceLeDiff, Nat.reduceLT, Nat.reduceBEq, Int.reduceEq, Int.reduceBEq, Int.reduceBNe, Int.reduceLT, Int.reduceLE, Int.reduceAdd, Int.reduceSub, Int.reduceNeg, Int.reduceToNat, Int.reducePow, Nat.reducePow, Int.reduceMul, Int.reduceDiv, ↓s_law_Model_put_b0, hlen, hlt, ix, c0, fx, hc']
      exact ih
    · have hc' : Op.bytesLess (bl a.key) (bl x.key) = false := Bool.eq_false_iff.2 fun h => hc (cb_lt.1 h)
      rw [if_neg hc, Nat.add_zero]
      simp (disch := first | with_reducible rfl | assumption | omega | rfl | (simp only [go_sem]; first | done | omega)) only [go_sem, ↓reduceIte, reduceCtorEq, Nat.reduceEqDiff, Nat.reduceAdd, Nat.reduceSub, Nat.reduceMul, Nat.reduceDiv, Nat.reduceMod, Nat.reduceLeDiff, Nat.reduceLT, Nat.reduceBEq, Int.reduceEq, Int.reduceBEq, Int.reduceBNe, Int.reduceLT, Int.reduceLE, Int.reduceAdd, Int.reduceSub, Int.reduceNeg, Int.reduceToNat, Int.reducePow, Nat.reducePow, Int.reduceMul, Int.reduceDiv, ↓s_law_Model_put_b0, hlen, hlt, ix, c0, fx, hc']

theorem q_mput (ok : Ok H) (r : LM H mb S now) (hs : Srt (pl S)) (hl : S.length ≤ 100000) (x : En) : ∃ w H', CC F.law_Model_put [pt mb, .agg ⟨[.string x.key, .string x.val, .int .i64 (x.e : Int)]⟩] H = some (w, H') ∧ LM H' mb (insR S x) now ∧ UpM H mb H' := by
  obtain ⟨H1, hH1⟩ : ∃ H1, H.push (.cells [.string x.key, .string x.val, .int .i64 (x.e : Int)] T.law_Entry true) = H1 := ⟨_, rfl⟩
  have s1 : Still H H1 := by rw [← hH1]; exact (Fr.refl H).push _
  have f1 : H1.f H.n = .cells [.string x.key, .string x.val, .int .i64 (x.e : Int)] T.law_Entry true := by rw [← hH1]; exact push_f_eq rfl
  have nw : newv T.law_Entry (.agg ⟨[.string x.key, .string x.val, .int .i64 (x.e : Int)]⟩) H = some (.pointer (some ⟨H.n, 0, none⟩), H1) := by rw [← hH1]; rfl
  have n1 : H1.n = H.n + 1 := by rw [← hH1]; rfl
  have r1 := r.still s1
  obtain ⟨hm, v, f0, o0, _⟩ := r
  have e2 := q_mfind r1 (by omega) x.key
  obtain ⟨v2, H2, e3, o2, s2, nb2⟩ := q_mdel r1 (by omega) x.key
  have n2 := s2.n
  have f2 : H2.f H.n = .cells [.string x.key, .string x.val, .int .i64 (x.e : Int)] T.law_Entry true := by rw [s2.f (by omega) fun h => h]; exact f1
  have hld : (delR S x.key).length ≤ 100000 := Nat.le_trans (del_len_le S x.key) hl
  have hloop := fun K => l_mput f2 o2.rd (by omega) (pt mb) K (delR S x.key) 0 rfl (Nat.zero_le _)
  rw [Nat.zero_add] at hloop
  have hpk := posK_le (delR S x.key) x.key
  have hid := ins_del hs x
  obtain ⟨p, hp⟩ : ∃ p, posK (delR S x.key) x.key = p := ⟨_, rfl⟩
  rw [hp] at hloop hpk hid
  have hloop : ∀ K, l_law_Model_put_0 (pt mb) (pt H.n) v2 (.int .i64 0) H2 (blkK [0, 3, 4, 5] 0 K) = K .normal [(0, pt mb), (3, pt H.n), (4, v2), (5, .int .i64 (p : Int))] H2 := hloop
  obtain ⟨H3, v3, w4, H4, v4, w5, H5, w6, H6, g1, g2, g3, g4, g5, g6, o6, s6, s5, s4, s3, nb6⟩ := ent_ins o2 (by omega) hpk x
  rw [hid] at o6
  have s12 : Still H H2 := s1.trans s2
  have n6 := s6.n
  have f6 : H6.f mb = .cells [v, .int .i64 (now : Int)] T.law_Model true := by rw [(s12.trans s6).f hm fun h => h]; exact f0
  have hone : Eng.one w6 = true := o6.cell
  obtain ⟨H7, hH7⟩ : ∃ H7, H6.set mb (.cells [w6, .int .i64 (now : Int)] T.law_Model true) = H7 := ⟨_, rfl⟩
  have fr7 : Fr (fun b => b = mb) H6 H7 := by rw [← hH7]; exact (Fr.refl H6).set _ _ fun _ => rfl
  have f7 : H7.f mb = .cells [w6, .int .i64 (now : Int)] T.law_Model true := by rw [← hH7]; exact set_f_eq
  have hb6 : ∀ b, blockOf w6 = some b → H.n ≤ b := fun b hb => by have := nb6 b hb; omega
  have o7 := o6.keep fr7 fun b hb h => by have := hb6 b hb; omega
  have hv : H.clk ≤ H7.ver mb := by rw [← hH7, set_v_eq]; exact (s12.trans s6).clk
  refine ⟨_, H7, (d_law_Model_put _ _ H (r := (.tuple #[], H7)) ?_).trans (congrArg some (tidy_turned hm (ok mb) hv)), ⟨by rw [← hH7]; show mb < H6.n; omega, w6, f7, o7, fun h => by have := hb6 mb h; omega⟩, ⟨((s12.trans s6).still).trans fr7, fun b hb => ?_⟩⟩
  · simp (disch := first | with_reducible rfl | assumption | omega | rfl | (simp only [go_sem]; first | done | omega)) only [go_sem, ↓reduceIte, reduceCtorEq, Nat.reduceEqDiff, Nat.reduceAdd, Nat.reduceSub, Nat.reduceMul, Nat.reduceDiv, Nat.reduceMod, Nat.reduceLeDiff, Nat.reduceLT, Nat.reduceBEq, Int.reduceEq, Int.reduceBEq, Int.reduceBNe, Int.reduceLT, Int.reduceLE, Int.reduceAdd, Int.reduceSub, Int.reduceNeg, Int.reduceToNat, Int.reducePow, Nat.reducePow, Int.reduceMul, Int.reduceDiv, ↓s_law_Model_put, nw, f1, ↓enterK_eq e2, enterK_eq e2, ↓enterK_eq e3, enterK_eq e3, hloop, f2, ↓g1, g1, ↓g2, g2, ↓g3, g3, ↓g4, g4, ↓g5, g5, ↓g6, g6, f6, hone, hH7]
  · rcases hb with hb | ⟨u, n, hu, hb⟩
    · exact .inl (.inl hb)
    · rw [f7] at hu
      cases hu
      exact .inr (hb6 b hb)

theorem q_bad (k v : ByteArray) (H : AHeap) : CC F.law_bad [.string k, .string v] H = some (.int .i64 (chk k [v]), H) := by
  have e : chk k [v] = if bl k = [] then 2 else if 24 < (bl k).length ∨ 40 < (bl v).length then 5 else 0 := by simp [chk]
  rw [e]
  by_cases h1 : bl k = []
  · rw [if_pos h1]
    have h1' : ((bl k).length : Int) = 0 := by rw [h1]; rfl
    apply pure_of _ (d_law_bad _ _ H) rfl
    rotate_left 2
    · simp (disch := first | with_reducible rfl | assumption | omega | rfl | (simp only [go_sem]; first | done | omega)) only [go_sem, ↓reduceIte, reduceCtorEq, Nat.reduceEqDiff, Nat.reduceAdd, Nat.reduceSub, Nat.reduceMul, Nat.reduceDiv, Nat.reduceMod, Nat.reduceLeDiff, Nat.reduceLT, Nat.reduceBEq, Int.reduceEq, Int.reduceBEq, Int.reduceBNe, Int.reduceLT, Int.reduceLE, Int.reduceAdd, Int.reduceSub, Int.reduceNeg, Int.reduceToNat, Int.reducePow, Nat.reducePow, Int.reduceMul, Int.reduceDiv, ↓s_law_bad, h1']
      rfl
    · (repeat (first | exact Fr.refl _ | refine Fr.push ?_ _ | refine Fr.set ?_ _ _ (by intro h; first | omega | (simp only [go_sem] at h; omega))))
  · rw [if_neg h1]
    have h1' : ¬ ((bl k).length : Int) = 0 := fun h => h1 (List.length_eq_zero_iff.1 (by omega))
    by_cases h2 : 24 < (bl k).length
    · have h2' : (24 : Int) < ((bl k).length : Int) := by omega
      rw [if_pos (.inl h2)]
      apply pure_of _ (d_law_bad _ _ H) rfl
      rotate_left 2
      · simp (disch := first | with_reducible rfl | assumption | omega | rfl | (simp only [go_sem]; first | done | omega)) only [go_sem, ↓reduceIte, reduceCtorEq, Nat.reduceEqDiff, Nat.reduceAdd, Nat.reduceSub, Nat.reduceMul, Nat.reduceDiv, Nat.reduceMod, Nat.reduceLeDiff, Nat.reduceLT, Nat.reduceBEq, Int.reduceEq, Int.reduceBEq, Int.reduceBNe, Int.reduceLT, Int.reduceLE, Int.reduceAdd, Int.reduceSub, Int.reduceNeg, Int.reduceToNat, Int.reducePow, Nat.reducePow, Int.reduceMul, Int.reduceDiv, ↓s_law_bad, h1', h2']
        rfl
      · (repeat (first | exact Fr.refl _ | refine Fr.push ?_ _ | refine Fr.set ?_ _ _ (by intro h; first | omega | (simp only [go_sem] at h; omega))))
    · have h2' : ¬ (24 : Int) < ((bl k).length : Int) := by omega
      by_cases h3 : 40 < (bl v).length
      · have h3' : (40 : Int) < ((bl v).length : Int) := by omega
        rw [if_pos (.inr h3)]
        apply pure_of _ (d_law_bad _ _ H) rfl
        rotate_left 2
        · simp (disch := first | with_reducible rfl | assumption | omega | rfl | (simp only [go_sem]; first | done | omega)) only [go_sem, ↓reduceIte, reduceCtorEq, Nat.reduceEqDiff, Nat.reduceAdd, Nat.reduceSub, Nat.reduceMul, Nat.reduceDiv, Nat.reduceMod, Nat.reduceLeDiff, Nat.reduceLT, Nat.reduceBEq, Int.reduceEq, Int.reduceBEq, Int.reduceBNe, Int.reduceLT, Int.reduceLE, Int.reduceAdd, Int.reduceSub, Int.reduceNeg, Int.reduceToNat, Int.reducePow, Nat.reducePow, Int.reduceMul, Int.reduceDiv, ↓s_law_bad, h1', h2', h3']
          rfl
        · (repeat (first | exact Fr.refl _ | refine Fr.push ?_ _ | refine Fr.set ?_ _ _ (by intro h; first | omega | (simp only [go_sem] at h; omega))))
      · have h3' : ¬ (40 : Int) < ((bl v).length : Int) := by omega
        rw [if_neg (fun h => h.elim h2 h3)]
        apply pure_of _ (d_law_bad _ _ H) rfl
        rotate_left 2
        · simp (disch := first | with_reducible rfl | assumption | omega | rfl | (simp only [go_sem]; first | done | omega)) only [go_sem, ↓reduceIte, reduceCtorEq, Nat.reduceEqDiff, Nat.reduceAdd, Nat.reduceSub, Nat.reduceMul, Nat.reduceDiv, Nat.reduceMod, Nat.reduceLeDiff, Nat.reduceLT, Nat.reduceBEq, Int.reduceEq, Int.reduceBEq, Int.reduceBNe, Int.reduceLT, Int.reduceLE, Int.reduceAdd, Int.reduceSub, Int.reduceNeg, Int.reduceToNat, Int.reducePow, Nat.reducePow, Int.reduceMul, Int.reduceDiv, ↓s_law_bad, h1', h2', h3']
          rfl
        · (repeat (first | exact Fr.refl _ | refine Fr.push ?_ _ | refine Fr.set ?_ _ _ (by intro h; first | omega | (simp only [go_sem] at h; omega))))
end

end Go.Proofs.Ythjjkinpbpealaa

/-
  Chapter 45: the law's own model: do.
  Conditions: none. By an AI agent.
-/
set_option maxRecDepth 10000
set_option linter.unusedSimpArgs false
set_option linter.unusedVariables false
namespace Go.Proofs.Ythjjkinpbpealaa
open Go Eng
attribute [local congr] bareK_congr' bothK_congr' quietK_congr'

section
variable {H : AHeap} {mb : Nat} {S : List En} {now : Nat}
theorem tidyM {H' : AHeap} {S' : List En} {now' : Nat} {v : Value} (ok : Ok H) (r : LM H mb S now) (r3 : LM H' mb S' now') (u : UpM H mb H') : ∃ H2, tidy H (v, H') = (v, H2) ∧ LM H2 mb S' now' ∧ UpM H mb H2 := by
  have hcl : mb < H.n := r.1
  unfold tidy
  split
  · rename_i hg
    simp only [Bool.and_eq_true] at hg
    have hsame : ∀ b, b < H.n → H'.f b = H.f b := fun b hb => by
      rcases u.fr.old b hb with h | ⟨h, _⟩
      · exact h.2
      · have := List.all_eq_true.1 hg.2 b (by simpa using hb)
        have := ok b
        simp at *
        omega
    have hfc : H.f mb = H'.f mb := (hsame mb hcl).symm
    have hlt : ∀ b, LB H' mb b → b < H.n := fun b hb => by
      have : LB H mb b := by unfold LB at hb ⊢; rw [hfc]; exact hb
      exact r.lt this
    refine ⟨H, rfl, ?_, UpM.refl H mb⟩
    obtain ⟨a0, v', a1, a2, a4⟩ := r3
    refine ⟨hcl, v', by rw [hfc]; exact a1, ?_, a4⟩
    rcases a2 with h | ⟨hl, x, hv, hs, hb⟩ | ⟨bb, o, cc, xs, hv, hlc, hb, hff, ho, hx⟩
    · exact .inl h
    · exact .inr (.inl ⟨hl, x, hv, hs, hlt _ (.inr ⟨v', _, a1, by rw [hv]; rfl⟩)⟩)
    · have hbb : bb < H.n := hlt _ (.inr ⟨v', _, a1, by rw [hv]; rfl⟩)
      exact .inr (.inr ⟨bb, o, cc, xs, hv, hlc, hbb, by rw [← hsame bb hbb]; exact hff, ho, hx⟩)
  · exact ⟨H', rfl, r3, u⟩

theorem UpM.still {H1 H2 : AHeap} (h : mb < H.n) (s : Still H H1) (u : UpM H1 mb H2) : UpM H mb H2 := by
  have := s.n
  exact ⟨s.still.trans u.fr, fun b hb => by
    rcases u.lb b hb with hb | hb
    · exact .inl ((lb_still h s fun h => h).1 hb)
    · exact .inr (by omega)⟩

/-- The act, in a block of its own. -/
def actC (w : Int) (k v : ByteArray) (n : Int) : Blk := .cells [.int .i64 w, .string k, .string v, .int .i64 n] T.law_Act true
theorem aliveB_find (r : LM H mb S now) (hs : Srt (pl S)) (k : ByteArray) : CC F.law_Model_alive [pt mb, .int .i64 (findE S k 0)] H = some (.bool (aliveB S now k), H) := by
  unfold aliveB
  rcases findE_spec S k 0 with ⟨a, b, _⟩ | ⟨j, x, a, b, c, d, _⟩
  · rw [a, b]
    exact q_malive_no _ (by decide) H
  · rw [a, d, Nat.zero_add]
    have hx : S[j] = x := by rw [List.getElem?_eq_getElem b] at c; exact Option.some.inj c
    have h := q_malive r b hx
    have hk := getS_key d
    have : endB S now k = dueB now x := by rw [← hk.1]; exact endB_mem hs hk.2 now
    rw [this]
    exact h

theorem q_mdo3 (ok : Ok H) (r : LM H mb S now) (k v : ByteArray) (n : Int) :
    ∃ H', CC F.law_Model_do [pt mb, .agg ⟨[.int .i64 3, .string k, .string v, .int .i64 n]⟩] H = some (.int .i64 (passX now n).1, H') ∧ LM H' mb S (passX now n).2 ∧ UpM H mb H' := by
  obtain ⟨H1, hH1⟩ : ∃ H1, H.push (actC 3 k v n) = H1 := ⟨_, rfl⟩
  have s1 : Still H H1 := by rw [← hH1]; exact (Fr.refl H).push _
  have f1 : H1.f H.n = .cells [.int .i64 3, .string k, .string v, .int .i64 n] T.law_Act true := by rw [← hH1]; exact push_f_eq rfl
  have nw : newv T.law_Act (.agg ⟨[.int .i64 3, .string k, .string v, .int .i64 n]⟩) H = some (.pointer (some ⟨H.n, 0, none⟩), H1) := by rw [← hH1]; rfl
  have r1 := r.still s1
  have hmb := r.1
  obtain ⟨hm, u, f0, o0, g0⟩ := id r1
  unfold passX
  by_cases h1 : n < 0 ∨ 1099511627776 < n
  · rw [if_pos h1]
    refine ⟨H, ?_, r, UpM.refl H mb⟩
    refine pure_of (H' := H1) ?_ (d_law_Model_do _ _ H) rfl s1
    by_cases h2 : n < 0
    · simp (disch := first | with_reducible rfl | assumption | omega | rfl | (simp only [go_sem]; first | done | omega)) only [go_sem, ↓reduceIte, reduceCtorEq, Nat.reduceEqDiff, Nat.reduceAdd, Nat.reduceSub, Nat.reduceMul, Nat.reduceDiv, Nat.reduceMod, Nat.reduceLeDiff, Nat.reduceLT, Nat.reduceBEq, Int.reduceEq, Int.reduceBEq, Int.reduceBNe, Int.reduceLT, Int.reduceLE, Int.reduceAdd, Int.reduceSub, Int.reduceNeg, Int.reduceToNat, Int.reducePow, Nat.reducePow, Int.reduceMul, Int.reduceDiv, ↓s_law_Model_do, nw, f1, h2]
    · have h3 : 1099511627776 < n := h1.resolve_left h2
      simp (disch := first | with_reducible rfl | assumption | omega | rfl | (simp only [go_sem]; first | done | omega)) only [go_sem, ↓reduceIte, reduceCtorEq, Nat.reduceEqDiff, Nat.reduceAdd, Nat.reduceSub, Nat.reduceMul, Nat.reduceDiv, Nat.reduceMod, Nat.reduceLeDiff, Nat.reduceLT, Nat.reduceBEq, Int.reduceEq, Int.reduceBEq, Int.reduceBNe, Int.reduceLT, Int.reduceLE, Int.reduceAdd, Int.reduceSub, Int.reduceNeg, Int.reduceToNat, Int.reducePow, Nat.reducePow, Int.reduceMul, Int.reduceDiv, ↓s_law_Model_do, nw, f1, h2, h3]
  rw [if_neg h1]
  have h2 : ¬ n < 0 := fun h => h1 (.inl h)
  have h3 : ¬ 1099511627776 < n := fun h => h1 (.inr h)
  by_cases h4 : n < (now : Int)
  · rw [if_pos h4]
    refine ⟨H, ?_, r, UpM.refl H mb⟩
    refine pure_of (H' := H1) ?_ (d_law_Model_do _ _ H) rfl s1
    simp (disch := first | with_reducible rfl | assumption | omega | rfl | (simp only [go_sem]; first | done | omega)) only [go_sem, ↓reduceIte, reduceCtorEq, Nat.reduceEqDiff, Nat.reduceAdd, Nat.reduceSub, Nat.reduceMul, Nat.reduceDiv, Nat.reduceMod, Nat.reduceLeDiff, Nat.reduceLT, Nat.reduceBEq, Int.reduceEq, Int.reduceBEq, Int.reduceBNe, Int.reduceLT, Int.reduceLE, Int.reduceAdd, Int.reduceSub, Int.reduceNeg, Int.reduceToNat, Int.reducePow, Nat.reducePow, Int.reduceMul, Int.reduceDiv, ↓s_law_Model_do, nw, f1, h2, h3, f0, h4]
  rw [if_neg h4]
  obtain ⟨N, rfl⟩ : ∃ N : Nat, n = (N : Int) := ⟨n.toNat, by omega⟩
  rw [Int.toNat_natCast]
  obtain ⟨H2, hH2⟩ : ∃ H2, H1.set mb (.cells [u, .int .i64 (N : Int)] T.law_Model true) = H2 := ⟨_, rfl⟩
  have fr2 : Fr (fun b => b = mb) H1 H2 := by rw [← hH2]; exact (Fr.refl H1).set _ _ fun _ => rfl
  have f2 : H2.f mb = .cells [u, .int .i64 (N : Int)] T.law_Model true := by rw [← hH2]; exact set_f_eq
  have o2 := o0.keep fr2 fun b hb h => g0 (by rw [← h]; exact hb)
  have r2 : LM H2 mb S N := ⟨by rw [← hH2]; exact hm, u, f2, o2, g0⟩
  have u2 : UpM H1 mb H2 := ⟨fr2, fun b hb => by
    rcases hb with hb | ⟨u', n', hu, hb⟩
    · exact .inl (.inl hb)
    · rw [f2] at hu
      cases hu
      exact .inl (.inr ⟨u, _, f0, hb⟩)⟩
  have hone : Eng.one u = true := o0.cell
  obtain ⟨H3, ht, r3, u3⟩ := tidyM (v := .int .i64 0) ok r r2 (u2.still hmb s1)
  refine ⟨H3, (d_law_Model_do _ _ H (r := (.int .i64 0, H2)) ?_).trans (congrArg some ht), r3, u3⟩
  simp (disch := first | with_reducible rfl | assumption | omega | rfl | (simp only [go_sem]; first | done | omega)) only [go_sem, ↓reduceIte, reduceCtorEq, Nat.reduceEqDiff, Nat.reduceAdd, Nat.reduceSub, Nat.reduceMul, Nat.reduceDiv, Nat.reduceMod, Nat.reduceLeDiff, Nat.reduceLT, Nat.reduceBEq, Int.reduceEq, Int.reduceBEq, Int.reduceBNe, Int.reduceLT, Int.reduceLE, Int.reduceAdd, Int.reduceSub, Int.reduceNeg, Int.reduceToNat, Int.reducePow, Nat.reducePow, Int.reduceMul, Int.reduceDiv, ↓s_law_Model_do, nw, f1, h2, h3, f0, h4, hone, hH2]

theorem q_mdo0 (ok : Ok H) (r : LM H mb S now) (hs : Srt (pl S)) (hl : S.length < 20000) (k v : ByteArray) (n : Int) :
    ∃ H', CC F.law_Model_do [pt mb, .agg ⟨[.int .i64 0, .string k, .string v, .int .i64 n]⟩] H = some (.int .i64 (putX S now k v n).1, H') ∧ LM H' mb (putX S now k v n).2 now ∧ UpM H mb H' := by
  obtain ⟨H1, hH1⟩ : ∃ H1, H.push (actC 0 k v n) = H1 := ⟨_, rfl⟩
  have s1 : Still H H1 := by rw [← hH1]; exact (Fr.refl H).push _
  have f1 : H1.f H.n = .cells [.int .i64 0, .string k, .string v, .int .i64 n] T.law_Act true := by rw [← hH1]; exact push_f_eq rfl
  have nw : newv T.law_Act (.agg ⟨[.int .i64 0, .string k, .string v, .int .i64 n]⟩) H = some (.pointer (some ⟨H.n, 0, none⟩), H1) := by rw [← hH1]; rfl
  have r1 := r.still s1
  have hmb := r.1
  obtain ⟨hm, u, f0, o0, g0⟩ := id r1
  have e1 := q_bad k v H1
  have e2 := q_mfind r1 (by omega) k
  unfold putX
  by_cases h1 : n < 0 ∨ 1099511627776 < n
  · rw [if_pos h1]
    refine ⟨H, ?_, r, UpM.refl H mb⟩
    refine pure_of (H' := H1) ?_ (d_law_Model_do _ _ H) rfl s1
    by_cases h2 : n < 0
    · simp (disch := first | with_reducible rfl | assumption | omega | rfl | (simp only [go_sem]; first | done | omega)) only [go_sem, ↓reduceIte, reduceCtorEq, Nat.reduceEqDiff, Nat.reduceAdd, Nat.reduceSub, Nat.reduceMul, Nat.reduceDiv, Nat.reduceMod, Nat.reduceLeDiff, Nat.reduceLT, Nat.reduceBEq, Int.reduceEq, Int.reduceBEq, Int.reduceBNe, Int.reduceLT, Int.reduceLE, Int.reduceAdd, Int.reduceSub, Int.reduceNeg, Int.reduceToNat, Int.reducePow, Nat.reducePow, Int.reduceMul, Int.reduceDiv, ↓s_law_Model_do, nw, f1, h2]
    · have h3 : 1099511627776 < n := h1.resolve_left h2
      simp (disch := first | with_reducible rfl | assumption | omega | rfl | (simp only [go_sem]; first | done | omega)) only [go_sem, ↓reduceIte, reduceCtorEq, Nat.reduceEqDiff, Nat.reduceAdd, Nat.reduceSub, Nat.reduceMul, Nat.reduceDiv, Nat.reduceMod, Nat.reduceLeDiff, Nat.reduceLT, Nat.reduceBEq, Int.reduceEq, Int.reduceBEq, Int.reduceBNe, Int.reduceLT, Int.reduceLE, Int.reduceAdd, Int.reduceSub, Int.reduceNeg, Int.reduceToNat, Int.reducePow, Nat.reducePow, Int.reduceMul, Int.reduceDiv, ↓s_law_Model_do, nw, f1, h2, h3]
  rw [if_neg h1]
  have h2 : ¬ n < 0 := fun h => h1 (.inl h)
  have h3 : ¬ 1099511627776 < n := fun h => h1 (.inr h)
  by_cases hc : chk k [v] = 0
  · rw [if_neg (fun h => h hc)]
    rw [hc] at e1
    obtain ⟨N, rfl⟩ : ∃ N : Nat, n = (N : Int) := ⟨n.toNat, by omega⟩
    rw [Int.toNat_natCast]
    by_cases h4 : (0 : Int) < (N : Int) ∧ (N : Int) ≤ (now : Int)
    · rw [if_pos h4]
      obtain ⟨h5, h6⟩ := h4
      have h5' : ¬ (N : Int) = 0 := by omega
      refine ⟨H, ?_, r, UpM.refl H mb⟩
      refine pure_of (H' := H1) ?_ (d_law_Model_do _ _ H) rfl s1
      simp (disch := first | with_reducible rfl | assumption | omega | rfl | (simp only [go_sem]; first | done | omega)) only [go_sem, ↓reduceIte, reduceCtorEq, Nat.reduceEqDiff, Nat.reduceAdd, Nat.reduceSub, Nat.reduceMul, Nat.reduceDiv, Nat.reduceMod, Nat.reduceLeDiff, Nat.reduceLT, Nat.reduceBEq, Int.reduceEq, Int.reduceBEq, Int.reduceBNe, Int.reduceLT, Int.reduceLE, Int.reduceAdd, Int.reduceSub, Int.reduceNeg, Int.reduceToNat, Int.reducePow, Nat.reducePow, Int.reduceMul, Int.reduceDiv, ↓s_law_Model_do, nw, f1, h2, h3, ↓enterK_eq e1, enterK_eq e1, ↓enterK_eq e2, enterK_eq e2, h5', f0, h6]
    rw [if_neg h4, if_neg (fun h => by have := h.2; omega)]
    obtain ⟨w, H2, e3, r2, u2⟩ := q_mput (s1.ok ok) r1 hs (by omega) ⟨k, v, N⟩
    have e3 : CC F.law_Model_put [pt mb, .agg ⟨[.string k, .string v, .int .i64 (N : Int)]⟩] H1 = some (w, H2) := e3
    obtain ⟨H3, ht, r3, u3⟩ := tidyM (v := .int .i64 0) ok r r2 (u2.still hmb s1)
    refine ⟨H3, (d_law_Model_do _ _ H (r := (.int .i64 0, H2)) ?_).trans (congrArg some ht), r3, u3⟩
    by_cases h5 : (N : Int) = 0
    · simp (disch := first | with_reducible rfl | assumption | omega | rfl | (simp only [go_sem]; first | done | omega)) only [go_sem, ↓reduceIte, reduceCtorEq, Nat.reduceEqDiff, Nat.reduceAdd, Nat.reduceSub, Nat.reduceMul, Nat.reduceDiv, Nat.reduceMod, Nat.reduceLeDiff, Nat.reduceLT, Nat.reduceBEq, Int.reduceEq, Int.reduceBEq, Int.reduceBNe, Int.reduceLT, Int.reduceLE, Int.reduceAdd, Int.reduceSub, Int.reduceNeg, Int.reduceToNat, Int.reducePow, Nat.reducePow, Int.reduceMul, Int.reduceDiv, ↓s_law_Model_do, nw, f1, h2, h3, ↓enterK_eq e1, enterK_eq e1, ↓enterK_eq e2, enterK_eq e2, decide_eq_true h5, f0, ↓enterK_eq e3, enterK_eq e3]
    · have h6 : ¬ (N : Int) ≤ (now : Int) := fun h => h4 ⟨by omega, h⟩
      simp (disch := first | with_reducible rfl | assumption | omega | rfl | (simp only [go_sem]; first | done | omega)) only [go_sem, ↓reduceIte, reduceCtorEq, Nat.reduceEqDiff, Nat.reduceAdd, Nat.reduceSub, Nat.reduceMul, Nat.reduceDiv, Nat.reduceMod, Nat.reduceLeDiff, Nat.reduceLT, Nat.reduceBEq, Int.reduceEq, Int.reduceBEq, Int.reduceBNe, Int.reduceLT, Int.reduceLE, Int.reduceAdd, Int.reduceSub, Int.reduceNeg, Int.reduceToNat, Int.reducePow, Nat.reducePow, Int.reduceMul, Int.reduceDiv, ↓s_law_Model_do, nw, f1, h2, h3, ↓enterK_eq e1, enterK_eq e1, ↓enterK_eq e2, enterK_eq e2, h5, f0, h6, ↓enterK_eq e3, enterK_eq e3]
  · rw [if_pos hc]
    refine ⟨H, ?_, r, UpM.refl H mb⟩
    refine pure_of (H' := H1) ?_ (d_law_Model_do _ _ H) rfl s1
    generalize chk k [v] = x at e1 hc ⊢
    simp (disch := first | with_reducible rfl | assumption | omega | rfl | (simp only [go_sem]; first | done | omega)) only [go_sem, ↓reduceIte, reduceCtorEq, Nat.reduceEqDiff, Nat.reduceAdd, Nat.reduceSub, Nat.reduceMul, Nat.reduceDiv, Nat.reduceMod, Nat.reduceLeDiff, Nat.reduceLT, Nat.reduceBEq, Int.reduceEq, Int.reduceBEq, Int.reduceBNe, Int.reduceLT, Int.reduceLE, Int.reduceAdd, Int.reduceSub, Int.reduceNeg, Int.reduceToNat, Int.reducePow, Nat.reducePow, Int.reduceMul, Int.reduceDiv, ↓s_law_Model_do, nw, f1, h2, h3, ↓enterK_eq e1, enterK_eq e1, hc]
end

end Go.Proofs.Ythjjkinpbpealaa

/-
  Chapter 45: the law's own model: do of Extend and Delete; all of do.
  Conditions: none. By an AI agent.
-/
set_option maxRecDepth 10000
set_option linter.unusedSimpArgs false
set_option linter.unusedVariables false
namespace Go.Proofs.Ythjjkinpbpealaa
open Go Eng
attribute [local congr] bareK_congr' bothK_congr' quietK_congr'

section
variable {H : AHeap} {mb : Nat} {S : List En} {now : Nat}
theorem aliveB_get (k : ByteArray) (hc : chk k [] = 0) : (getX S now k).2.2 = if aliveB S now k then 0 else 9 := by
  unfold getX aliveB
  rw [if_neg (fun h => h hc)]
  cases hg : getS S k with
  | none => rfl
  | some x => cases endB S now k <;> rfl
theorem q_mdo1 (ok : Ok H) (r : LM H mb S now) (hs : Srt (pl S)) (hl : S.length < 20000) (k v : ByteArray) (n : Int) :
    ∃ H', CC F.law_Model_do [pt mb, .agg ⟨[.int .i64 1, .string k, .string v, .int .i64 n]⟩] H = some (.int .i64 (extX S now k n).1, H') ∧ LM H' mb (extX S now k n).2 now ∧ UpM H mb H' := by
  obtain ⟨H0, hH0⟩ : ∃ H0, H.push (actC 1 k v n) = H0 := ⟨_, rfl⟩
  obtain ⟨H1, hH1⟩ : ∃ H1, H0.set H.n (actC 1 k (mk []) n) = H1 := ⟨_, rfl⟩
  have s0 : Still H H0 := by rw [← hH0]; exact (Fr.refl H).push _
  have s1 : Still H H1 := by rw [← hH1]; exact s0.set _ _ fun h => absurd h (Nat.lt_irrefl _)
  have f0' : H0.f H.n = .cells [.int .i64 1, .string k, .string v, .int .i64 n] T.law_Act true := by rw [← hH0]; exact push_f_eq rfl
  have f1 : H1.f H.n = .cells [.int .i64 1, .string k, .string (mk []), .int .i64 n] T.law_Act true := by rw [← hH1]; exact set_f_eq
  have nw : newv T.law_Act (.agg ⟨[.int .i64 1, .string k, .string v, .int .i64 n]⟩) H = some (.pointer (some ⟨H.n, 0, none⟩), H0) := by rw [← hH0]; rfl
  unfold actC at hH1
  have r1 := r.still s1
  have hmb := r.1
  obtain ⟨hm, u, f0, o0, g0⟩ := id r1
  have e1 := q_bad k (mk []) H1
  rw [chk_e] at e1
  have e2 := q_mfind r1 (by omega) k
  have e3 := aliveB_find r1 hs k
  unfold extX
  by_cases h1 : n < 0 ∨ 1099511627776 < n
  · rw [if_pos h1]
    refine ⟨H, ?_, r, UpM.refl H mb⟩
    refine pure_of (H' := H0) ?_ (d_law_Model_do _ _ H) rfl s0
    by_cases h2 : n < 0
    · simp (disch := first | with_reducible rfl | assumption | omega | rfl | (simp only [go_sem]; first | done | omega)) only [go_sem, ↓reduceIte, reduceCtorEq, Nat.reduceEqDiff, Nat.reduceAdd, Nat.reduceSub, Nat.reduceMul, Nat.reduceDiv, Nat.reduceMod, Nat.reduceLeDiff, Nat.reduceLT, Nat.reduceBEq, Int.reduceEq, Int.reduceBEq, Int.reduceBNe, Int.reduceLT, Int.reduceLE, Int.reduceAdd, Int.reduceSub, Int.reduceNeg, Int.reduceToNat, Int.reducePow, Nat.reducePow, Int.reduceMul, Int.reduceDiv, ↓s_law_Model_do, nw, f0', h2]
    · have h3 : 1099511627776 < n := h1.resolve_left h2
      simp (disch := first | with_reducible rfl | assumption | omega | rfl | (simp only [go_sem]; first | done | omega)) only [go_sem, ↓reduceIte, reduceCtorEq, Nat.reduceEqDiff, Nat.reduceAdd, Nat.reduceSub, Nat.reduceMul, Nat.reduceDiv, Nat.reduceMod, Nat.reduceLeDiff, Nat.reduceLT, Nat.reduceBEq, Int.reduceEq, Int.reduceBEq, Int.reduceBNe, Int.reduceLT, Int.reduceLE, Int.reduceAdd, Int.reduceSub, Int.reduceNeg, Int.reduceToNat, Int.reducePow, Nat.reducePow, Int.reduceMul, Int.reduceDiv, ↓s_law_Model_do, nw, f0', h2, h3]
  rw [if_neg h1]
  have h2 : ¬ n < 0 := fun h => h1 (.inl h)
  have h3 : ¬ 1099511627776 < n := fun h => h1 (.inr h)
  by_cases hc : chk k [] = 0
  · rw [if_neg (fun h => h hc)]
    rw [hc] at e1
    obtain ⟨N, rfl⟩ : ∃ N : Nat, n = (N : Int) := ⟨n.toNat, by omega⟩
    rw [Int.toNat_natCast]
    by_cases h4 : (0 : Int) < (N : Int) ∧ (N : Int) ≤ (now : Int)
    · rw [if_pos h4]
      obtain ⟨h5, h6⟩ := h4
      have h5' : ¬ (N : Int) = 0 := by omega
      refine ⟨H, ?_, r, UpM.refl H mb⟩
      refine pure_of (H' := H1) ?_ (d_law_Model_do _ _ H) rfl s1
      simp (disch := first | with_reducible rfl | assumption | omega | rfl | (simp only [go_sem]; first | done | omega)) only [go_sem, ↓reduceIte, reduceCtorEq, Nat.reduceEqDiff, Nat.reduceAdd, Nat.reduceSub, Nat.reduceMul, Nat.reduceDiv, Nat.reduceMod, Nat.reduceLeDiff, Nat.reduceLT, Nat.reduceBEq, Int.reduceEq, Int.reduceBEq, Int.reduceBNe, Int.reduceLT, Int.reduceLE, Int.reduceAdd, Int.reduceSub, Int.reduceNeg, Int.reduceToNat, Int.reducePow, Nat.reducePow, Int.reduceMul, Int.reduceDiv, ↓s_law_Model_do, nw, f0', hH1, f1, h2, h3, ↓enterK_eq e1, enterK_eq e1, ↓enterK_eq e2, enterK_eq e2, h5', f0, h6]
    rw [if_neg h4]
    have hno : aliveB S now k = false → ∃ H', CC F.law_Model_do [pt mb, .agg ⟨[.int .i64 1, .string k, .string v, .int .i64 (N : Int)]⟩] H = some (.int .i64 9, H') ∧ LM H' mb S now ∧ UpM H mb H' := fun hg => by
      rw [hg] at e3
      refine ⟨H, ?_, r, UpM.refl H mb⟩
      refine pure_of (H' := H1) ?_ (d_law_Model_do _ _ H) rfl s1
      by_cases h5 : (N : Int) = 0
      · simp (disch := first | with_reducible rfl | assumption | omega | rfl | (simp only [go_sem]; first | done | omega)) only [go_sem, ↓reduceIte, reduceCtorEq, Nat.reduceEqDiff, Nat.reduceAdd, Nat.reduceSub, Nat.reduceMul, Nat.reduceDiv, Nat.reduceMod, Nat.reduceLeDiff, Nat.reduceLT, Nat.reduceBEq, Int.reduceEq, Int.reduceBEq, Int.reduceBNe, Int.reduceLT, Int.reduceLE, Int.reduceAdd, Int.reduceSub, Int.reduceNeg, Int.reduceToNat, Int.reducePow, Nat.reducePow, Int.reduceMul, Int.reduceDiv, ↓s_law_Model_do, nw, f0', hH1, f1, h2, h3, ↓enterK_eq e1, enterK_eq e1, ↓enterK_eq e2, enterK_eq e2, decide_eq_true h5, f0, ↓enterK_eq e3, enterK_eq e3]
      · have h6 : ¬ (N : Int) ≤ (now : Int) := fun h => h4 ⟨by omega, h⟩
        simp (disch := first | with_reducible rfl | assumption | omega | rfl | (simp only [go_sem]; first | done | omega)) only [go_sem, ↓reduceIte, reduceCtorEq, Nat.reduceEqDiff, Nat.reduceAdd, Nat.reduceSub, Nat.reduceMul, Nat.reduceDiv, Nat.reduceMod, Nat.reduceLeDiff, Nat.reduceLT, Nat.reduceBEq, Int.reduceEq, Int.reduceBEq, Int.reduceBNe, Int.reduceLT, Int.reduceLE, Int.reduceAdd, Int.reduceSub, Int.reduceNeg, Int.reduceToNat, Int.reducePow, Nat.reducePow, Int.reduceMul, Int.reduceDiv, ↓s_law_Model_do, nw, f0', hH1, f1, h2, h3, ↓enterK_eq e1, enterK_eq e1, ↓enterK_eq e2, enterK_eq e2, h5, f0, h6, ↓enterK_eq e3, enterK_eq e3]
    by_cases hb : endB S now k = true
    · rw [if_pos hb]
      exact hno (by unfold aliveB; rw [hb, Bool.not_true, Bool.and_false])
    rw [if_neg hb]
    rcases findE_spec S k 0 with ⟨a, b, _⟩ | ⟨j, x, a, b, c, d, _⟩
    · rw [b]
      exact hno (by unfold aliveB; rw [b]; rfl)
    · rw [d]
      have hal : aliveB S now k = true := by
        unfold aliveB
        rw [d]
        cases he : endB S now k with
        | true => exact absurd he hb
        | false => rfl
      rw [hal] at e3
      rw [a, Nat.zero_add] at e2 e3
      have hx : S[j] = x := by rw [List.getElem?_eq_getElem b] at c; exact Option.some.inj c
      obtain ⟨bb, o, ix, hbn, hcc, hbl⟩ := o0.rd.ix (q := .i64) b
      have ix : ixS 3 u (.int .i64 j) = some (.pointer (some ⟨bb, o, none⟩)) := ix
      rw [hx] at hcc
      have c1 : cellB (H1.f bb) (o + 1) = some (.string x.val) := cutB_cell hcc (i := 1) (by decide)
      obtain ⟨w, H2, e4, r2, u2⟩ := q_mput (s1.ok ok) r1 hs (by omega) ⟨k, x.val, N⟩
      have e4 : CC F.law_Model_put [pt mb, .agg ⟨[.string k, .string x.val, .int .i64 (N : Int)]⟩] H1 = some (w, H2) := e4
      obtain ⟨H3, ht, r3, u3⟩ := tidyM (v := .int .i64 0) ok r r2 (u2.still hmb s1)
      refine ⟨H3, (d_law_Model_do _ _ H (r := (.int .i64 0, H2)) ?_).trans (congrArg some ht), r3, u3⟩
      by_cases h5 : (N : Int) = 0
      · simp (disch := first | with_reducible rfl | assumption | omega | rfl | (simp only [go_sem]; first | done | omega)) only [go_sem, ↓reduceIte, reduceCtorEq, Nat.reduceEqDiff, Nat.reduceAdd, Nat.reduceSub, Nat.reduceMul, Nat.reduceDiv, Nat.reduceMod, Nat.reduceLeDiff, Nat.reduceLT, Nat.reduceBEq, Int.reduceEq, Int.reduceBEq, Int.reduceBNe, Int.reduceLT, Int.reduceLE, Int.reduceAdd, Int.reduceSub, Int.reduceNeg, Int.reduceToNat, Int.reducePow, Nat.reducePow, Int.reduceMul, Int.reduceDiv, ↓s_law_Model_do, nw, f0', hH1, f1, h2, h3, ↓enterK_eq e1, enterK_eq e1, ↓enterK_eq e2, enterK_eq e2, decide_eq_true h5, f0, ↓enterK_eq e3, enterK_eq e3, ix, c1, ↓enterK_eq e4, enterK_eq e4]
      · have h6 : ¬ (N : Int) ≤ (now : Int) := fun h => h4 ⟨by omega, h⟩
        simp (disch := first | with_reducible rfl | assumption | omega | rfl | (simp only [go_sem]; first | done | omega)) only [go_sem, ↓reduceIte, reduceCtorEq, Nat.reduceEqDiff, Nat.reduceAdd, Nat.reduceSub, Nat.reduceMul, Nat.reduceDiv, Nat.reduceMod, Nat.reduceLeDiff, Nat.reduceLT, Nat.reduceBEq, Int.reduceEq, Int.reduceBEq, Int.reduceBNe, Int.reduceLT, Int.reduceLE, Int.reduceAdd, Int.reduceSub, Int.reduceNeg, Int.reduceToNat, Int.reducePow, Nat.reducePow, Int.reduceMul, Int.reduceDiv, ↓s_law_Model_do, nw, f0', hH1, f1, h2, h3, ↓enterK_eq e1, enterK_eq e1, ↓enterK_eq e2, enterK_eq e2, h5, f0, h6, ↓enterK_eq e3, enterK_eq e3, ix, c1, ↓enterK_eq e4, enterK_eq e4]
  · rw [if_pos hc]
    refine ⟨H, ?_, r, UpM.refl H mb⟩
    refine pure_of (H' := H1) ?_ (d_law_Model_do _ _ H) rfl s1
    generalize chk k [] = x at e1 hc ⊢
    simp (disch := first | with_reducible rfl | assumption | omega | rfl | (simp only [go_sem]; first | done | omega)) only [go_sem, ↓reduceIte, reduceCtorEq, Nat.reduceEqDiff, Nat.reduceAdd, Nat.reduceSub, Nat.reduceMul, Nat.reduceDiv, Nat.reduceMod, Nat.reduceLeDiff, Nat.reduceLT, Nat.reduceBEq, Int.reduceEq, Int.reduceBEq, Int.reduceBNe, Int.reduceLT, Int.reduceLE, Int.reduceAdd, Int.reduceSub, Int.reduceNeg, Int.reduceToNat, Int.reducePow, Nat.reducePow, Int.reduceMul, Int.reduceDiv, ↓s_law_Model_do, nw, f0', hH1, f1, h2, h3, ↓enterK_eq e1, enterK_eq e1, hc]

theorem q_mdo2 (ok : Ok H) (r : LM H mb S now) (hs : Srt (pl S)) (hl : S.length < 20000) (k v : ByteArray) (n : Int) :
    ∃ H', CC F.law_Model_do [pt mb, .agg ⟨[.int .i64 2, .string k, .string v, .int .i64 n]⟩] H = some (.int .i64 (delX S now k).1, H') ∧ LM H' mb (delX S now k).2 now ∧ UpM H mb H' := by
  obtain ⟨H0, hH0⟩ : ∃ H0, H.push (actC 2 k v n) = H0 := ⟨_, rfl⟩
  obtain ⟨H1, hH1⟩ : ∃ H1, H0.set H.n (actC 2 k (mk []) n) = H1 := ⟨_, rfl⟩
  have s0 : Still H H0 := by rw [← hH0]; exact (Fr.refl H).push _
  have s1 : Still H H1 := by rw [← hH1]; exact s0.set _ _ fun h => absurd h (Nat.lt_irrefl _)
  have f0' : H0.f H.n = .cells [.int .i64 2, .string k, .string v, .int .i64 n] T.law_Act true := by rw [← hH0]; exact push_f_eq rfl
  have f1 : H1.f H.n = .cells [.int .i64 2, .string k, .string (mk []), .int .i64 n] T.law_Act true := by rw [← hH1]; exact set_f_eq
  have nw : newv T.law_Act (.agg ⟨[.int .i64 2, .string k, .string v, .int .i64 n]⟩) H = some (.pointer (some ⟨H.n, 0, none⟩), H0) := by rw [← hH0]; rfl
  have n1 : H1.n = H.n + 1 := by rw [← hH1, ← hH0]; rfl
  unfold actC at hH1
  have r1 := r.still s1
  have hmb := r.1
  obtain ⟨hm, u, f0, o0, g0⟩ := id r1
  have e1 := q_bad k (mk []) H1
  rw [chk_e] at e1
  have e2 := q_mfind r1 (by omega) k
  have e3 := aliveB_find r1 hs k
  unfold delX
  by_cases hc : chk k [] = 0
  · rw [aliveB_get k hc]
    rw [hc] at e1
    cases hal : aliveB S now k with
    | false =>
      rw [hal] at e3
      refine ⟨H, ?_, r, UpM.refl H mb⟩
      refine pure_of (H' := H1) ?_ (d_law_Model_do _ _ H) rfl s1
      simp (disch := first | with_reducible rfl | assumption | omega | rfl | (simp only [go_sem]; first | done | omega)) only [go_sem, ↓reduceIte, reduceCtorEq, Nat.reduceEqDiff, Nat.reduceAdd, Nat.reduceSub, Nat.reduceMul, Nat.reduceDiv, Nat.reduceMod, Nat.reduceLeDiff, Nat.reduceLT, Nat.reduceBEq, Int.reduceEq, Int.reduceBEq, Int.reduceBNe, Int.reduceLT, Int.reduceLE, Int.reduceAdd, Int.reduceSub, Int.reduceNeg, Int.reduceToNat, Int.reducePow, Nat.reducePow, Int.reduceMul, Int.reduceDiv, ↓s_law_Model_do, nw, f0', hH1, f1, ↓enterK_eq e1, enterK_eq e1, ↓enterK_eq e2, enterK_eq e2, ↓enterK_eq e3, enterK_eq e3]
    | true =>
      rw [hal] at e3
      rw [if_pos rfl, if_neg (fun h => h rfl)]
      obtain ⟨w, H2, e4, o2, s2, nb⟩ := q_mdel r1 (by omega) k
      have hex : ∀ b, blockOf w = some b → H1.n ≤ b := by
        rcases findE_spec S k 0 with ⟨a, b, _⟩ | ⟨j, x, a, b, c, d, e⟩
        · unfold aliveB at hal
          rw [b] at hal
          cases hal
        · obtain ⟨w', H2', e4', _, _, nb'⟩ := q_mwithout r1 (by omega) b
          rw [a, Nat.zero_add, e4'] at e4
          cases e4
          exact nb'
      have n2 := s2.n
      have f2 : H2.f mb = .cells [u, .int .i64 (now : Int)] T.law_Model true := by rw [s2.f hm fun h => h]; exact f0
      have hone : Eng.one w = true := o2.cell
      obtain ⟨H3, hH3⟩ : ∃ H3, H2.set mb (.cells [w, .int .i64 (now : Int)] T.law_Model true) = H3 := ⟨_, rfl⟩
      have fr3 : Fr (fun b => b = mb) H2 H3 := by rw [← hH3]; exact (Fr.refl H2).set _ _ fun _ => rfl
      have f3 : H3.f mb = .cells [w, .int .i64 (now : Int)] T.law_Model true := by rw [← hH3]; exact set_f_eq
      have o3 := o2.keep fr3 fun b hb h => by have := hex b hb; omega
      have r3 : LM H3 mb (delR S k) now := ⟨by rw [← hH3]; show mb < H2.n; omega, w, f3, o3, fun h => by have := hex mb h; omega⟩
      have s12 : Still H H2 := s1.trans s2
      have u3 : UpM H mb H3 := ⟨s12.still.trans fr3, fun b hb => by
        rcases hb with hb | ⟨u', n', hu, hb⟩
        · exact .inl (.inl hb)
        · rw [f3] at hu
          cases hu
          have := hex b hb
          exact .inr (by omega)⟩
      obtain ⟨H4, ht, r4, u4⟩ := tidyM (v := .int .i64 0) ok r r3 u3
      refine ⟨H4, (d_law_Model_do _ _ H (r := (.int .i64 0, H3)) ?_).trans (congrArg some ht), r4, u4⟩
      simp (disch := first | with_reducible rfl | assumption | omega | rfl | (simp only [go_sem]; first | done | omega)) only [go_sem, ↓reduceIte, reduceCtorEq, Nat.reduceEqDiff, Nat.reduceAdd, Nat.reduceSub, Nat.reduceMul, Nat.reduceDiv, Nat.reduceMod, Nat.reduceLeDiff, Nat.reduceLT, Nat.reduceBEq, Int.reduceEq, Int.reduceBEq, Int.reduceBNe, Int.reduceLT, Int.reduceLE, Int.reduceAdd, Int.reduceSub, Int.reduceNeg, Int.reduceToNat, Int.reducePow, Nat.reducePow, Int.reduceMul, Int.reduceDiv, ↓s_law_Model_do, nw, f0', hH1, f1, ↓enterK_eq e1, enterK_eq e1, ↓enterK_eq e2, enterK_eq e2, ↓enterK_eq e3, enterK_eq e3, ↓enterK_eq e4, enterK_eq e4, f2, hone, hH3]
  · have hg : (getX S now k).2.2 = chk k [] := by
      unfold getX
      rw [if_pos hc]
    rw [hg, if_pos hc]
    refine ⟨H, ?_, r, UpM.refl H mb⟩
    refine pure_of (H' := H1) ?_ (d_law_Model_do _ _ H) rfl s1
    generalize chk k [] = x at e1 hc ⊢
    simp (disch := first | with_reducible rfl | assumption | omega | rfl | (simp only [go_sem]; first | done | omega)) only [go_sem, ↓reduceIte, reduceCtorEq, Nat.reduceEqDiff, Nat.reduceAdd, Nat.reduceSub, Nat.reduceMul, Nat.reduceDiv, Nat.reduceMod, Nat.reduceLeDiff, Nat.reduceLT, Nat.reduceBEq, Int.reduceEq, Int.reduceBEq, Int.reduceBNe, Int.reduceLT, Int.reduceLE, Int.reduceAdd, Int.reduceSub, Int.reduceNeg, Int.reduceToNat, Int.reducePow, Nat.reducePow, Int.reduceMul, Int.reduceDiv, ↓s_law_Model_do, nw, f0', hH1, f1, ↓enterK_eq e1, enterK_eq e1, hc]

theorem q_mdo (ok : Ok H) (r : LM H mb S now) (hs : Srt (pl S)) (hl : S.length < 20000) (a : Act) (h0 : 0 ≤ a.what) (h3 : a.what ≤ 3) :
    ∃ H', CC F.law_Model_do [pt mb, .agg ⟨EAct.enc a⟩] H = some (.int .i64 (actX S now a).1, H') ∧ LM H' mb (actX S now a).2.1 (actX S now a).2.2 ∧ UpM H mb H' := by
  obtain ⟨w, k, v, n⟩ := a
  dsimp only at h0 h3
  have hw : w = 0 ∨ w = 1 ∨ w = 2 ∨ w = 3 := by omega
  rcases hw with rfl | rfl | rfl | rfl
  · exact q_mdo0 ok r hs hl k v n
  · exact q_mdo1 ok r hs hl k v n
  · exact q_mdo2 ok r hs hl k v n
  · exact q_mdo3 ok r k v n
end

end Go.Proofs.Ythjjkinpbpealaa

/-
  Chapter 45: the law's own model: waiting.
  Conditions: none. By an AI agent.
-/
set_option maxRecDepth 10000
set_option linter.unusedSimpArgs false
set_option linter.unusedVariables false
namespace Go.Proofs.Ythjjkinpbpealaa
open Go Eng
attribute [local congr] bareK_congr' bothK_congr' quietK_congr'

def bW (y x : En) : Bool := decide (y.e < x.e) || (decide (y.e = x.e) && Op.bytesLess (bl y.key) (bl x.key))
def posW : List En → En → Nat
  | [], _ => 0
  | y :: l, x => if bW y x then posW l x + 1 else 0
def insW (l : List En) (x : En) : List En := l.take (posW l x) ++ x :: l.drop (posW l x)
theorem posW_le : ∀ (l : List En) (x : En), posW l x ≤ l.length
  | [], _ => Nat.le_refl _
  | y :: l, x => by
    rw [posW]
    have := posW_le l x
    split <;> simp <;> omega
def cE (x : En) : List UInt8 × Int := conv (x.key, x.e)
theorem bW_bef (y x : En) : befB (cE y) (cE x) = bW y x := by
  unfold befB bW cE conv
  have h1 : decide ((y.e : Int) < (x.e : Int)) = decide (y.e < x.e) := by simp
  have h2 : decide ((y.e : Int) = (x.e : Int)) = decide (y.e = x.e) := decide_eq_decide.2 (by omega)
  simp only [h1, h2]
  rfl
theorem insW_map : ∀ (l : List En) (x : En), (insW l x).map cE = insE (cE x) (l.map cE)
  | [], x => rfl
  | y :: l, x => by
    have ih := insW_map l x
    unfold insW at ih ⊢
    rw [posW, List.map_cons, insE, bW_bef]
    cases bW y x with
    | true =>
      rw [if_pos rfl, if_pos rfl, List.take_succ_cons, List.drop_succ_cons, List.cons_append, List.map_cons, ih]
    | false =>
      rw [if_neg (by decide), if_neg (by decide)]
      rfl
theorem fold_map : ∀ (q l : List En), (q.foldl insW l).map cE = (q.map cE).foldl (fun a x => insE x a) (l.map cE)
  | [], l => rfl
  | x :: q, l => by
    rw [List.foldl_cons, fold_map q (insW l x), insW_map]
    rfl
theorem fold_sort (q : List (List UInt8 × Int)) : q.foldl (fun a x => insE x a) [] = sortE q.reverse := by
  have h : ∀ q : List (List UInt8 × Int), sortE q = q.foldr insE [] := fun q => by
    induction q with
    | nil => rfl
    | cons x q ih => rw [sortE, ih]; rfl
  rw [h, List.foldr_reverse]
def waitL (S : List En) (now : Nat) : List En := (S.filter (dueB now)).foldl insW []
theorem waitL_eq (S : List En) (now : Nat) : (waitL S now).map En.key = wS S now := by
  have h1 : (waitL S now).map cE = sortE ((dueS S now).map conv) := by
    unfold waitL
    rw [fold_map, List.map_nil, fold_sort]
    have e : (S.filter (dueB now)).map cE = (dueS S now).map conv := by
      unfold dueS
      rw [List.map_map]
      rfl
    rw [e]
    exact sortE_eq (List.reverse_perm _)
  unfold wS
  rw [← h1, List.map_map]
  refine List.map_congr_left fun x _ => ?_
  simp [cE, conv]
theorem insW_len (l : List En) (x : En) : (insW l x).length = l.length + 1 := by
  unfold insW
  have := posW_le l x
  simp
  omega

section
variable {H : AHeap} {mb : Nat} {S : List En} {now : Nat}
theorem l_mw1 {x : En} {b5 : Nat} {v3 : Value} {l : List En} (fx : H.f b5 = .cells [.string x.key, .string x.val, .int .i64 (x.e : Int)] T.law_Entry true) (rd : Rd EEn H v3 l) (hl : l.length ≤ 1000000) (v0 v4 : Value) (K : K) : ∀ (q : List En) (i : Nat), l.drop i = q → i ≤ l.length →
    l_law_Model_waiting_1 v0 v3 v4 (pt b5) (.int .i64 (i : Int)) H (blkK [0, 3, 4, 5, 6] 2 K) = K .normal [(0, v0), (3, v3), (4, v4), (5, pt b5), (6, .int .i64 ((i + posW q x : Nat) : Int))] H
  | [], i, hd, hi => by
    have h : l.length ≤ i := List.drop_eq_nil_iff.1 hd
    have hlt : ¬ (i : Int) < (l.length : Int) := by omega
    have hlen := rd.lenS
    rw [r_law_Model_waiting_1]
    simp (disch := first | with_reducible rfl | assumption | omega | rfl | (simp only [go_sem]; first | done | omega)) only [go_sem, ↓reduceIte, reduceCtorEq, Nat.reduceEqDiff, Nat.reduceAdd, Nat.reduceSub, Nat.reduceMul, Nat.reduceDiv, Nat.reduceMod, Nat.reduceLeDiff, Nat.reduceLT, Nat.reduceBEq, Int.reduceEq, Int.reduceBEq, Int.reduceBNe, Int.reduceLT, Int.reduceLE, Int.reduceAdd, Int.reduceSub, Int.reduceNeg, Int.reduceToNat, Int.reducePow, Nat.reducePow, Int.reduceMul, Int.reduceDiv, ↓s_law_Model_waiting_b1, hlen, hlt, posW, Nat.add_zero]
  | y :: q, i, hd, hi => by
    obtain ⟨h, ha, hd'⟩ := drop_en hd
    have hlt : (i : Int) < (l.length : Int) := by omega
    have hlen := rd.lenS
    obtain ⟨bb, o, ix, hbn, hcc, hbl⟩ := rd.ix (q := .i64) h
    have ix : ixS 3 v3 (.int .i64 i) = some (.pointer (some ⟨bb, o, none⟩)) := ix
    rw [ha] at hcc
    have c0 : cellB (H.f bb) o = some (.string y.key) := cutB_cell hcc (i := 0) (by decide)
    have c2 : cellB (H.f bb) (o + 2) = some (.int .i64 (y.e : Int)) := cutB_cell hcc (i := 2) (by decide)
    rw [r_law_Model_waiting_1, posW]
    have yes : bW y x = true → l_law_Model_waiting_1 v0 v3 v4 (pt b5) (.int .i64 ((i : Int) + 1)) H (blkK [0, 3, 4, 5, 6] 2 K) = K .normal [(0, v0), (3, v3), (4, v4), (5, pt b5), (6, .int .i64 ((i + (if bW y x = true then posW q x + 1 else 0) : Nat) : Int))] H := fun hb => by
      have ih := l_mw1 fx rd hl v0 v4 K q (i + 1) hd' (by omega)
      rw [if_pos hb, ← Nat.add_assoc, Nat.add_right_comm]
      generalize ((i + 1 + posW q x : Nat) : Int) = P at ih ⊢
      rw [Int.natCast_add] at ih
      exact ih
    by_cases h1 : y.e < x.e
    · have h1' : (y.e : Int) < (x.e : Int) := by omega
      have hy := yes (by unfold bW; simp [h1])
      generalize (i + (if bW y x = true then posW q x + 1 else 0) : Nat) = P at hy ⊢
      simp (disch := first | with_reducible rfl | assumption | omega | rfl | (simp only [go_sem]; first | done | omega)) only [go_sem, ↓reduceIte, reduceCtorEq, Nat.reduceEqDiff, Nat.reduceAdd, Nat.reduceSub, Nat.reduceMul, Nat.reduceDiv, Nat.reduceMod, Nat.reduceLeDiff, Nat.reduceLT, Nat.reduceBEq, Int.reduceEq, Int.reduceBEq, Int.reduceBNe, Int.reduceLT, Int.reduceLE, Int.reduceAdd, Int.reduceSub, Int.reduceNeg, Int.reduceToNat, Int.reducePow, Nat.reducePow, Int.reduceMul, Int.reduceDiv, ↓s_law_Model_waiting_b1, hlen, hlt, ix, c2, fx, h1']
      exact hy
    · have h1' : ¬ (y.e : Int) < (x.e : Int) := by omega
      by_cases h2 : y.e = x.e
      · have h2' : (y.e : Int) = (x.e : Int) := by omega
        cases h3 : Op.bytesLess (bl y.key) (bl x.key) with
        | true =>
          have hy := yes (by unfold bW; simp [h2, h3])
          generalize (i + (if bW y x = true then posW q x + 1 else 0) : Nat) = P at hy ⊢
          generalize (y.e : Int) = A at c2 h1' h2'
          generalize (x.e : Int) = B at fx h1' h2'
          simp (disch := first | with_reducible rfl | assumption | omega | rfl | (simp only [go_sem]; first | done | omega)) only [go_sem, ↓reduceIte, reduceCtorEq, Nat.reduceEqDiff, Nat.reduceAdd, Nat.reduceSub, Nat.reduceMul, Nat.reduceDiv, Nat.reduceMod, Nat.reduceLeDiff, Nat.reduceLT, Nat.reduceBEq, Int.reduceEq, Int.reduceBEq, Int.reduceBNe, Int.reduceLT, Int.reduceLE, Int.reduceAdd, Int.reduceSub, Int.reduceNeg, Int.reduceToNat, Int.reducePow, Nat.reducePow, Int.reduceMul, Int.reduceDiv, ↓s_law_Model_waiting_b1, hlen, hlt, ix, c0, c2, fx, h1', decide_eq_true h2', h3]
          exact hy
        | false =>
          have hb : bW y x = false := by unfold bW; simp [h2, h3]
          rw [hb, if_neg (by decide), Nat.add_zero]
          generalize (y.e : Int) = A at c2 h1' h2'
          generalize (x.e : Int) = B at fx h1' h2'
          simp (disch := first | with_reducible rfl | assumption | omega | rfl | (simp only [go_sem]; first | done | omega)) only [go_sem, ↓reduceIte, reduceCtorEq, Nat.reduceEqDiff, Nat.reduceAdd, Nat.reduceSub, Nat.reduceMul, Nat.reduceDiv, Nat.reduceMod, Nat.reduceLeDiff, Nat.reduceLT, Nat.reduceBEq, Int.reduceEq, Int.reduceBEq, Int.reduceBNe, Int.reduceLT, Int.reduceLE, Int.reduceAdd, Int.reduceSub, Int.reduceNeg, Int.reduceToNat, Int.reducePow, Nat.reducePow, Int.reduceMul, Int.reduceDiv, ↓s_law_Model_waiting_b1, hlen, hlt, ix, c0, c2, fx, h1', decide_eq_true h2', h3]
      · have h2' : ¬ (y.e : Int) = (x.e : Int) := by omega
        have hb : bW y x = false := by unfold bW; simp [h1, h2]
        rw [hb, if_neg (by decide), Nat.add_zero]
        simp (disch := first | with_reducible rfl | assumption | omega | rfl | (simp only [go_sem]; first | done | omega)) only [go_sem, ↓reduceIte, reduceCtorEq, Nat.reduceEqDiff, Nat.reduceAdd, Nat.reduceSub, Nat.reduceMul, Nat.reduceDiv, Nat.reduceMod, Nat.reduceLeDiff, Nat.reduceLT, Nat.reduceBEq, Int.reduceEq, Int.reduceBEq, Int.reduceBNe, Int.reduceLT, Int.reduceLE, Int.reduceAdd, Int.reduceSub, Int.reduceNeg, Int.reduceToNat, Int.reducePow, Nat.reducePow, Int.reduceMul, Int.reduceDiv, ↓s_law_Model_waiting_b1, hlen, hlt, ix, c2, fx, h1', h2']

theorem l_mw0 (hl : S.length ≤ 100000) : ∀ (q : List En) (i : Nat) (out : List En) (v : Value) (H : AHeap), S.drop i = q → i ≤ S.length → LM H mb S now → Own EEn H T.law_Entry v out → out.length ≤ i →
    ∃ v' H', (∀ K, l_law_Model_waiting_0 (pt mb) v (.int .i64 (i : Int)) H (blkK [3] 0 K) = K .normal [(3, v')] H') ∧ Own EEn H' T.law_Entry v' ((q.filter (dueB now)).foldl insW out) ∧ Still H H'
  | [], i, out, v, H, hd, hi, r, o, ho => by
    have h : S.length ≤ i := List.drop_eq_nil_iff.1 hd
    have hlt : ¬ (i : Int) < (S.length : Int) := by omega
    obtain ⟨hm, u, f0, o0, g0⟩ := r
    have hlen := o0.rd.lenS
    refine ⟨v, H, fun K => ?_, o, Fr.refl H⟩
    rw [r_law_Model_waiting_0]
    simp (disch := first | with_reducible rfl | assumption | omega | rfl | (simp only [go_sem]; first | done | omega)) only [go_sem, ↓reduceIte, reduceCtorEq, Nat.reduceEqDiff, Nat.reduceAdd, Nat.reduceSub, Nat.reduceMul, Nat.reduceDiv, Nat.reduceMod, Nat.reduceLeDiff, Nat.reduceLT, Nat.reduceBEq, Int.reduceEq, Int.reduceBEq, Int.reduceBNe, Int.reduceLT, Int.reduceLE, Int.reduceAdd, Int.reduceSub, Int.reduceNeg, Int.reduceToNat, Int.reducePow, Nat.reducePow, Int.reduceMul, Int.reduceDiv, ↓s_law_Model_waiting_b0, f0, hlen, hlt]
  | x :: q, i, out, v, H, hd, hi, r, o, ho => by
    obtain ⟨h, ha, hd'⟩ := drop_en hd
    have hlt : (i : Int) < (S.length : Int) := by omega
    have e1 := q_malive r h ha
    obtain ⟨hm, u, f0, o0, g0⟩ := id r
    have hlen := o0.rd.lenS
    cases hdu : dueB now x with
    | false =>
      rw [hdu] at e1
      obtain ⟨v', H', g1, g2, g3⟩ := l_mw0 hl q (i + 1) out v H hd' (by omega) r o (by omega)
      refine ⟨v', H', fun K => ?_, by rw [List.filter_cons, hdu]; exact g2, g3⟩
      have ih := g1 K
      rw [Int.natCast_add] at ih
      rw [r_law_Model_waiting_0]
      simp (disch := first | with_reducible rfl | assumption | omega | rfl | (simp only [go_sem]; first | done | omega)) only [go_sem, ↓reduceIte, reduceCtorEq, Nat.reduceEqDiff, Nat.reduceAdd, Nat.reduceSub, Nat.reduceMul, Nat.reduceDiv, Nat.reduceMod, Nat.reduceLeDiff, Nat.reduceLT, Nat.reduceBEq, Int.reduceEq, Int.reduceBEq, Int.reduceBNe, Int.reduceLT, Int.reduceLE, Int.reduceAdd, Int.reduceSub, Int.reduceNeg, Int.reduceToNat, Int.reducePow, Nat.reducePow, Int.reduceMul, Int.reduceDiv, ↓s_law_Model_waiting_b0, f0, hlen, hlt, ↓enterK_eq e1, enterK_eq e1, Bool.not_false]
      exact ih
    | true =>
      rw [hdu] at e1
      obtain ⟨bb, oo, ix, hbn, hcc, hbl⟩ := o0.rd.ix (q := .i64) h
      have ix : ixS 3 u (.int .i64 i) = some (.pointer (some ⟨bb, oo, none⟩)) := ix
      rw [ha] at hcc
      have hcc : cutB (H.f bb) oo 3 = some [.string x.key, .string x.val, .int .i64 (x.e : Int)] := hcc
      obtain ⟨Hz, hHz⟩ : ∃ Hz, H.push (.cells [.string (mk []), .string (mk []), .int .i64 0] T.law_Entry true) = Hz := ⟨_, rfl⟩
      obtain ⟨H1, hH1⟩ : ∃ H1, Hz.set H.n (.cells [.string x.key, .string x.val, .int .i64 (x.e : Int)] T.law_Entry true) = H1 := ⟨_, rfl⟩
      have nw : newv T.law_Entry (.agg #[.string (mk []), .string (mk []), .int .i64 0]) H = some (.pointer (some ⟨H.n, 0, none⟩), Hz) := by rw [← hHz]; rfl
      have fz : Hz.f H.n = .cells [.string (mk []), .string (mk []), .int .i64 0] T.law_Entry true := by rw [← hHz]; exact push_f_eq rfl
      have sz : Still H Hz := by rw [← hHz]; exact (Fr.refl H).push _
      have s1 : Still H H1 := by rw [← hH1]; exact sz.set _ _ fun h => absurd h (Nat.lt_irrefl _)
      have f1 : H1.f H.n = .cells [.string x.key, .string x.val, .int .i64 (x.e : Int)] T.law_Entry true := by rw [← hH1]; exact set_f_eq
      have o1 := o.still s1
      have hpl := posW_le out x
      have k1 := fun K => l_mw1 f1 o1.rd (by omega) (pt mb) (.int .i64 (i : Int)) K out 0 rfl (Nat.zero_le _)
      rw [Nat.zero_add] at k1
      have hins : insW out x = out.take (posW out x) ++ x :: out.drop (posW out x) := rfl
      have hil := insW_len out x
      obtain ⟨p, hp⟩ : ∃ p, posW out x = p := ⟨_, rfl⟩
      rw [hp] at k1 hpl hins
      have k1 : ∀ K, l_law_Model_waiting_1 (pt mb) v (.int .i64 (i : Int)) (pt H.n) (.int .i64 0) H1 (blkK [0, 3, 4, 5, 6] 2 K) = K .normal [(0, pt mb), (3, v), (4, .int .i64 (i : Int)), (5, pt H.n), (6, .int .i64 (p : Int))] H1 := k1
      obtain ⟨H3, v3, w4, H4, v4, w5, H5, w6, H6, g1, g2, g3, g4, g5, g6, o6, s6, s5, s4, s3, nb6⟩ := ent_ins o1 (by omega) hpl x
      rw [← hins] at o6
      have r6 := (r.still s1).still s6
      obtain ⟨v', H', k2, k3, k4⟩ := l_mw0 hl q (i + 1) (insW out x) w6 H6 hd' (by omega) r6 o6 (by omega)
      refine ⟨v', H', fun K => ?_, by rw [List.filter_cons, hdu]; exact k3, (s1.trans s6).trans k4⟩
      have ih := k2 K
      rw [Int.natCast_add] at ih
      rw [r_law_Model_waiting_0]
      simp (disch := first | with_reducible rfl | assumption | omega | rfl | (simp only [go_sem]; first | done | omega)) only [go_sem, ↓reduceIte, reduceCtorEq, Nat.reduceEqDiff, Nat.reduceAdd, Nat.reduceSub, Nat.reduceMul, Nat.reduceDiv, Nat.reduceMod, Nat.reduceLeDiff, Nat.reduceLT, Nat.reduceBEq, Int.reduceEq, Int.reduceBEq, Int.reduceBNe, Int.reduceLT, Int.reduceLE, Int.reduceAdd, Int.reduceSub, Int.reduceNeg, Int.reduceToNat, Int.reducePow, Nat.reducePow, Int.reduceMul, Int.reduceDiv, ↓s_law_Model_waiting_b0, f0, hlen, hlt, ↓enterK_eq e1, enterK_eq e1, Bool.not_true, ix, hcc, nw, fz, hH1, k1, f1, ↓g1, g1, ↓g2, g2, ↓g3, g3, ↓g4, g4, ↓g5, g5, ↓g6, g6]
      exact ih

theorem l_mw2 {Hs : AHeap} {v3 : Value} {W : List En} (r3 : Rd EEn Hs v3 W) (hl : W.length ≤ 100000) : ∀ (q : List En) (i : Nat) (acc : List ByteArray) (v8 : Value) (H : AHeap), W.drop i = q → i ≤ W.length → Still Hs H → Own EStr H T.string v8 acc → acc.length = i → (∀ b, blockOf v8 = some b → Hs.n ≤ b) →
    ∃ v8' H', (∀ K, l_law_Model_waiting_2 v3 v8 (.int .i64 (i : Int)) H (blkK [8] 4 K) = K .normal [(8, v8')] H') ∧ Own EStr H' T.string v8' (acc ++ q.map En.key) ∧ Still Hs H' ∧ (∀ b, blockOf v8' = some b → Hs.n ≤ b)
  | [], i, acc, v8, H, hd, hi, s, o, ho, nb => by
    have h : W.length ≤ i := List.drop_eq_nil_iff.1 hd
    have hlt : ¬ (i : Int) < (W.length : Int) := by omega
    have hlen := (r3.still s).lenS
    refine ⟨v8, H, fun K => ?_, by simpa using o, s, nb⟩
    rw [r_law_Model_waiting_2]
    simp (disch := first | with_reducible rfl | assumption | omega | rfl | (simp only [go_sem]; first | done | omega)) only [go_sem, ↓reduceIte, reduceCtorEq, Nat.reduceEqDiff, Nat.reduceAdd, Nat.reduceSub, Nat.reduceMul, Nat.reduceDiv, Nat.reduceMod, Nat.reduceLeDiff, Nat.reduceLT, Nat.reduceBEq, Int.reduceEq, Int.reduceBEq, Int.reduceBNe, Int.reduceLT, Int.reduceLE, Int.reduceAdd, Int.reduceSub, Int.reduceNeg, Int.reduceToNat, Int.reducePow, Nat.reducePow, Int.reduceMul, Int.reduceDiv, ↓s_law_Model_waiting_b2, hlen, hlt]
  | x :: q, i, acc, v8, H, hd, hi, s, o, ho, nb => by
    obtain ⟨h, ha, hd'⟩ := drop_en hd
    have hlt : (i : Int) < (W.length : Int) := by omega
    have hlen := (r3.still s).lenS
    obtain ⟨bb, oo, ix, hbn, hcc, hbl⟩ := (r3.still s).ix (q := .i64) h
    have ix : ixS 3 v3 (.int .i64 i) = some (.pointer (some ⟨bb, oo, none⟩)) := ix
    rw [ha] at hcc
    have c0 : cellB (H.f bb) oo = some (.string x.key) := cutB_cell hcc (i := 0) (by decide)
    obtain ⟨H1, hH1⟩ : ∃ H1, H.push (.cells [.string x.key] T.string true) = H1 := ⟨_, rfl⟩
    have s1 : Still H H1 := by rw [← hH1]; exact (Fr.refl H).push _
    have f1 : H1.f H.n = .cells [.string x.key] T.string true := by rw [← hH1]; exact push_f_eq rfl
    have n1 : H1.n = H.n + 1 := by rw [← hH1]; rfl
    have rl : Rd EStr H1 (.slice (some ⟨H.n, 0, none⟩) 1 2) [x.key] := .inr (.inr ⟨H.n, 0, _, rfl, by simp, by omega, by rw [f1]; rfl⟩)
    obtain ⟨v9, H2, ha2, o2, fr2, hb2⟩ := (o.still s1).appE (m := [x.key]) (sz := 1) (bytes := 16) rfl (by simp; omega) (by simp; omega) (rl.src (sz := 1) rfl)
    have n2 := fr2.n
    have ns := s.n
    have s2 : Still Hs H2 := (s.trans s1).then fr2 fun b hb h => by unfold OnlyOf at h; have := nb b h; omega
    obtain ⟨v8', H', k1, k2, k3, k4⟩ := l_mw2 r3 hl q (i + 1) (acc ++ [x.key]) v9 H2 hd' (by omega) s2 o2 (by simp; omega) (fun b hb => by
      rcases hb2 with h | h
      · rw [h] at hb; exact nb b hb
      · rw [h] at hb; cases hb; omega)
    refine ⟨v8', H', fun K => ?_, by simpa using k2, k3, k4⟩
    have ih := k1 K
    rw [Int.natCast_add] at ih
    rw [r_law_Model_waiting_2]
    simp (disch := first | with_reducible rfl | assumption | omega | rfl | (simp only [go_sem]; first | done | omega)) only [go_sem, ↓reduceIte, reduceCtorEq, Nat.reduceEqDiff, Nat.reduceAdd, Nat.reduceSub, Nat.reduceMul, Nat.reduceDiv, Nat.reduceMod, Nat.reduceLeDiff, Nat.reduceLT, Nat.reduceBEq, Int.reduceEq, Int.reduceBEq, Int.reduceBNe, Int.reduceLT, Int.reduceLE, Int.reduceAdd, Int.reduceSub, Int.reduceNeg, Int.reduceToNat, Int.reducePow, Nat.reducePow, Int.reduceMul, Int.reduceDiv, ↓s_law_Model_waiting_b2, hlen, hlt, ix, c0, hH1, ↓ha2, ha2]
    exact ih

theorem q_mwaiting (r : LM H mb S now) (hl : S.length ≤ 100000) : ∃ v H', CC F.law_Model_waiting [pt mb] H = some (v, H') ∧ Own EStr H' T.string v (wS S now) ∧ Still H H' ∧ ∀ b, blockOf v = some b → H.n ≤ b := by
  obtain ⟨v1, H1, k1, o1, s1⟩ := l_mw0 hl S 0 [] (.slice none 0 0) H rfl (Nat.zero_le _) r Own.nil (Nat.zero_le _)
  have k1 : ∀ K, l_law_Model_waiting_0 (pt mb) (.slice none 0 0) (.int .i64 0) H (blkK [3] 0 K) = K .normal [(3, v1)] H1 := k1
  have hW : (S.filter (dueB now)).foldl insW [] = waitL S now := rfl
  rw [hW] at o1
  have hwl : (waitL S now).length ≤ 100000 := by
    have h1 := congrArg List.length (waitL_eq S now)
    rw [List.length_map] at h1
    have := wS_le S now
    omega
  obtain ⟨v2, H2, k2, o2, s2, nb⟩ := l_mw2 o1.rd hwl (waitL S now) 0 [] (.slice none 0 0) H1 rfl (Nat.zero_le _) (Fr.refl H1) Own.nil rfl (fun b h => by cases h)
  have k2 : ∀ K, l_law_Model_waiting_2 v1 (.slice none 0 0) (.int .i64 0) H1 (blkK [8] 4 K) = K .normal [(8, v2)] H2 := k2
  rw [List.nil_append, waitL_eq] at o2
  have n1 := s1.n
  obtain ⟨H', a1, a2, a3⟩ := tidiedG (x := CC F.law_Model_waiting [pt mb] H) o2 (s1.trans s2) (d_law_Model_waiting _ H (by
    simp (disch := first | with_reducible rfl | assumption | omega | rfl | (simp only [go_sem]; first | done | omega)) only [go_sem, ↓reduceIte, reduceCtorEq, Nat.reduceEqDiff, Nat.reduceAdd, Nat.reduceSub, Nat.reduceMul, Nat.reduceDiv, Nat.reduceMod, Nat.reduceLeDiff, Nat.reduceLT, Nat.reduceBEq, Int.reduceEq, Int.reduceBEq, Int.reduceBNe, Int.reduceLT, Int.reduceLE, Int.reduceAdd, Int.reduceSub, Int.reduceNeg, Int.reduceToNat, Int.reducePow, Nat.reducePow, Int.reduceMul, Int.reduceDiv, ↓s_law_Model_waiting, k1, k2]))
  exact ⟨v2, H', a1, a2, a3, fun b hb => by have := nb b hb; omega⟩
end

end Go.Proofs.Ythjjkinpbpealaa

/-
  Chapter 45: a store and the law's own model beside each other: gets, Next, alike.
  Conditions: none. By an AI agent.
-/
set_option maxRecDepth 10000
set_option linter.unusedSimpArgs false
set_option linter.unusedVariables false
namespace Go.Proofs.Ythjjkinpbpealaa
open Go Eng
attribute [local congr] bareK_congr' bothK_congr' quietK_congr'

/-! ### Next -/
def nxF (now : Nat) (n : Nat) (x : En) : Nat := if dueB now x then n else if 0 < x.e ∧ (n = 0 ∨ x.e < n) then x.e else n
def nextF (now : Nat) (l : List En) (n : Nat) : Nat := l.foldl (nxF now) n
theorem nextF_spec (now : Nat) : ∀ (l : List En) (n : Nat), (n = 0 ∨ now < n) → ((nextF now l n = n ∨ ∃ x ∈ l, now < x.e ∧ nextF now l n = x.e) ∧ (nextF now l n = 0 → n = 0 ∧ ∀ x ∈ l, ¬ now < x.e) ∧ (n ≠ 0 → nextF now l n ≤ n) ∧ ∀ x ∈ l, now < x.e → nextF now l n ≤ x.e)
  | [], n, _ => ⟨.inl rfl, fun h => ⟨h, fun x hx => by cases hx⟩, fun _ => Nat.le_refl _, fun x hx => by cases hx⟩
  | x :: l, n, hn => by
    have e : nextF now (x :: l) n = nextF now l (nxF now n x) := rfl
    have hx1 : nxF now n x = n ∨ (now < x.e ∧ nxF now n x = x.e) := by
      unfold nxF dueB
      split
      · exact .inl rfl
      · rename_i h1
        split
        · rename_i h2
          refine .inr ⟨?_, rfl⟩
          simp only [Bool.and_eq_true, decide_eq_true_eq] at h1
          omega
        · exact .inl rfl
    have hx2 : now < x.e → nxF now n x ≤ x.e ∧ nxF now n x ≠ 0 := fun h => by
      unfold nxF dueB
      have hd : (decide (0 < x.e) && decide (x.e ≤ now)) = false := by simp; omega
      rw [hd, if_neg (by decide)]
      split
      · omega
      · rename_i h2
        omega
    have hx3 : n ≠ 0 → nxF now n x ≤ n ∧ nxF now n x ≠ 0 := fun h => by
      unfold nxF
      split
      · omega
      · split
        · omega
        · omega
    have hx4 : nxF now n x = 0 ∨ now < nxF now n x := by
      rcases hx1 with h | ⟨h, h'⟩
      · rw [h]; exact hn
      · rw [h']; exact .inr h
    obtain ⟨a, b, c, d⟩ := nextF_spec now l (nxF now n x) hx4
    rw [e]
    refine ⟨?_, fun h => ?_, fun h => ?_, fun z hz h => ?_⟩
    · rcases a with a | ⟨y, hy, h1, h2⟩
      · rcases hx1 with h | ⟨h, h'⟩
        · exact .inl (by rw [a, h])
        · exact .inr ⟨x, by simp, h, by rw [a, h']⟩
      · exact .inr ⟨y, by simp [hy], h1, h2⟩
    · obtain ⟨b1, b2⟩ := b h
      refine ⟨?_, fun z hz => ?_⟩
      · by_cases h0 : n = 0
        · exact h0
        · exact absurd b1 (hx3 h0).2
      · rcases List.mem_cons.1 hz with rfl | hz
        · exact fun hh => (hx2 hh).2 b1
        · exact b2 z hz
    · obtain ⟨c1, c2⟩ := hx3 h
      have := c c2
      omega
    · rcases List.mem_cons.1 hz with rfl | hz
      · obtain ⟨c1, c2⟩ := hx2 h
        have := c c2
        omega
      · exact d z hz h

section
variable {H : AHeap} {c mb : Nat} {m : Option Nat} {E : Ec} {S : List En} {now : Nat}
theorem minE_next (r : StR H c m E S now) : minE (now : Int) (E.map conv) = (nextF now S 0 : Int) := by
  have hpos : ∀ k ∈ E.map conv, 0 < k.2 := fun k hk => by
    obtain ⟨p, hp, rfl⟩ := List.mem_map.1 hk
    obtain ⟨x, hx, _, _, h⟩ := r.ent hp
    show (0 : Int) < (p.2 : Int)
    omega
  have hin : ∀ x ∈ S, now < x.e → ((conv (x.key, x.e)) ∈ E.map conv) := fun x hx h => by
    have he := end_of_mem r.srt hx
    have hl := r.lk x.key
    rw [he, if_neg (by omega)] at hl
    exact List.mem_map_of_mem (lkp_mem hl)
  have hout : ∀ k ∈ E.map conv, ∃ x ∈ S, k.2 = (x.e : Int) := fun k hk => by
    obtain ⟨p, hp, rfl⟩ := List.mem_map.1 hk
    obtain ⟨x, hx, _, e, _⟩ := r.ent hp
    exact ⟨x, hx, by rw [e]; rfl⟩
  obtain ⟨a, b, _, d⟩ := nextF_spec now S 0 (.inl rfl)
  rcases minE_spec (now : Int) hpos with ⟨h1, h2⟩ | ⟨⟨k, hk, h1, h2⟩, h3⟩
  · rw [h1]
    rcases a with a | ⟨x, hx, h, _⟩
    · rw [a]; rfl
    · have := h2 _ (hin x hx h)
      have : (x.e : Int) ≤ (now : Int) := this
      omega
  · obtain ⟨y, hy, e⟩ := hout k hk
    have hny : now < y.e := by omega
    have d1 := d y hy hny
    rcases a with a | ⟨x, hx, h, h'⟩
    · exact absurd hny ((b a).2 y hy)
    · have := h3 _ (hin x hx h) (by show ¬ ((x.e : Int) ≤ (now : Int)); omega)
      have : minE (now : Int) (E.map conv) ≤ (x.e : Int) := this
      omega
theorem q_xNext (r : StR H c m E S now) : CC F.expire_Store_Next [pt c] H = some (.int .i64 (nextF now S 0 : Int), H) := by
  have hp : prims1 F.expire_Store_Next = some nextP := by kernel_rfl
  rw [← minE_next r]
  obtain ⟨v0, f0, _⟩ := r.md
  have f0 : H.f c = .cells [v0, .map m, .int .i64 (now : Int)] T.expire_Store true := f0
  refine D_prim hp ?_
  cases hm : m with
  | none =>
    subst hm
    have hE : E = [] := r.mi
    subst hE
    unfold nextP
    simp only [f0, List.getElem?_cons_zero, List.getElem?_cons_succ, Nat.zero_add]
    rfl
  | some b =>
    subst hm
    obtain ⟨b1, b2, b3⟩ := r.mi
    have hes := entS_ents r.ents_ok
    have hel : (entsOf E).length ≤ 1000000 := by unfold entsOf; rw [List.length_map]; have := r.elen; omega
    unfold nextP
    simp only [f0, List.getElem?_cons_zero, List.getElem?_cons_succ, Nat.zero_add, b1, hes]
    rw [if_pos hel]

theorem q_gets (ok : Ok H) (r : StR H c m E S now) (k v : ByteArray) (e : Nat) (no : Int) (h : getX S now k = (v, e, no)) : CC F.law_gets [pt c, .string k, .string v, .int .i64 (e : Int), .int .i64 no] H = some (.bool true, H) := by
  have e1 := q_xGet ok r k
  rw [h] at e1
  have e1 : CC F.expire_Store_Get [pt c, .string k] H = some (.tuple #[.string v, .int .i64 (e : Int), .int .i64 no], H) := e1
  apply pure_of _ (d_law_gets _ _ _ _ _ H) rfl
  rotate_left 2
  · simp (disch := first | with_reducible rfl | assumption | omega | rfl | (simp only [go_sem]; first | done | omega)) only [go_sem, ↓reduceIte, reduceCtorEq, Nat.reduceEqDiff, Nat.reduceAdd, Nat.reduceSub, Nat.reduceMul, Nat.reduceDiv, Nat.reduceMod, Nat.reduceLeDiff, Nat.reduceLT, Nat.reduceBEq, Int.reduceEq, Int.reduceBEq, Int.reduceBNe, Int.reduceLT, Int.reduceLE, Int.reduceAdd, Int.reduceSub, Int.reduceNeg, Int.reduceToNat, Int.reducePow, Nat.reducePow, Int.reduceMul, Int.reduceDiv, ↓s_law_gets, ↓enterK_eq e1, enterK_eq e1]
    rfl
  · (repeat (first | exact Fr.refl _ | refine Fr.push ?_ _ | refine Fr.set ?_ _ _ (by intro h; first | omega | (simp only [go_sem] at h; omega))))
theorem getX_dead (r : StR H c m E S now) {x : En} (hx : x ∈ S) (h : dueB now x = true) : getX S now x.key = (mk [], 0, 9) := by
  unfold getX
  rw [if_neg (fun e => e (r.keys x hx)), getS_mem r.srt hx]
  show (if endB S now x.key = true then _ else _) = _
  rw [endB_mem r.srt hx, h]
  rfl
theorem getX_live (r : StR H c m E S now) {x : En} (hx : x ∈ S) (h : dueB now x = false) : getX S now x.key = (x.val, x.e, 0) := by
  unfold getX
  rw [if_neg (fun e => e (r.keys x hx)), getS_mem r.srt hx]
  show (if endB S now x.key = true then _ else _) = _
  rw [endB_mem r.srt hx, h]
  rfl
end

/-! ### alike -/
section
variable {c mb : Nat} {m : Option Nat} {E : Ec} {S : List En} {now : Nat}
theorem l_a0 : ∀ (q : List En) (i : Nat) (n : Nat) (acc : List Pr) (v6 : Value) (H : AHeap), S.drop i = q → i ≤ S.length → Ok H → StR H c m E S now → LM H mb S now → Own EPr H T.api_Pair v6 acc → acc.length ≤ i → (∀ b, blockOf v6 = some b → ¬ OB H c b ∧ ¬ LB H mb b) →
    ∃ v6' H', (∀ K, l_law_alike_0 (pt c) (pt mb) (.int .i64 (n : Int)) v6 (.int .i64 (i : Int)) H (blkK [0, 5, 6] 0 K) = K .normal [(0, pt c), (5, .int .i64 (nextF now q n : Int)), (6, v6')] H') ∧
      Own EPr H' T.api_Pair v6' (acc ++ (q.filter fun x => !dueB now x).map toP) ∧ Fr (OnlyOf v6) H H' ∧ (∀ b, blockOf v6' = some b → ¬ OB H' c b ∧ ¬ LB H' mb b) ∧ (∀ b, blockOf v6' = some b → blockOf v6 = some b ∨ H.n ≤ b)
  | [], i, n, acc, v6, H, hd, hi, ok, r, rm, o, ho, sp => by
    have h : S.length ≤ i := List.drop_eq_nil_iff.1 hd
    have hlt : ¬ (i : Int) < (S.length : Int) := by omega
    obtain ⟨hm, u, f0, o0, g0⟩ := rm
    have hlen := o0.rd.lenS
    refine ⟨v6, H, fun K => ?_, by simpa using o, Fr.refl H, sp, fun b hb => .inl hb⟩
    rw [r_law_alike_0]
    simp (disch := first | with_reducible rfl | assumption | omega | rfl | (simp only [go_sem]; first | done | omega)) only [go_sem, ↓reduceIte, reduceCtorEq, Nat.reduceEqDiff, Nat.reduceAdd, Nat.reduceSub, Nat.reduceMul, Nat.reduceDiv, Nat.reduceMod, Nat.reduceLeDiff, Nat.reduceLT, Nat.reduceBEq, Int.reduceEq, Int.reduceBEq, Int.reduceBNe, Int.reduceLT, Int.reduceLE, Int.reduceAdd, Int.reduceSub, Int.reduceNeg, Int.reduceToNat, Int.reducePow, Nat.reducePow, Int.reduceMul, Int.reduceDiv, ↓s_law_alike_b0, f0, hlen, hlt, nextF, List.foldl_nil]
  | x :: q, i, n, acc, v6, H, hd, hi, ok, r, rm, o, ho, sp => by
    obtain ⟨h, ha, hd'⟩ := drop_en hd
    have hlt : (i : Int) < (S.length : Int) := by omega
    have hxS : x ∈ S := by rw [← ha]; exact List.getElem_mem _
    have hlS := r.len
    obtain ⟨hm, u, f0, o0, g0⟩ := id rm
    have hlen := o0.rd.lenS
    obtain ⟨bb, oo, ix, hbn, hcc, hbl⟩ := o0.rd.ix (q := .i64) h
    have ix : ixS 3 u (.int .i64 i) = some (.pointer (some ⟨bb, oo, none⟩)) := ix
    rw [ha] at hcc
    have hcc : cutB (H.f bb) oo 3 = some [.string x.key, .string x.val, .int .i64 (x.e : Int)] := hcc
    obtain ⟨Hz, hHz⟩ : ∃ Hz, H.push (.cells [.string (mk []), .string (mk []), .int .i64 0] T.law_Entry true) = Hz := ⟨_, rfl⟩
    obtain ⟨H1, hH1⟩ : ∃ H1, Hz.set H.n (.cells [.string x.key, .string x.val, .int .i64 (x.e : Int)] T.law_Entry true) = H1 := ⟨_, rfl⟩
    have nw : newv T.law_Entry (.agg #[.string (mk []), .string (mk []), .int .i64 0]) H = some (.pointer (some ⟨H.n, 0, none⟩), Hz) := by rw [← hHz]; rfl
    have fz : Hz.f H.n = .cells [.string (mk []), .string (mk []), .int .i64 0] T.law_Entry true := by rw [← hHz]; exact push_f_eq rfl
    have sz : Still H Hz := by rw [← hHz]; exact (Fr.refl H).push _
    have s1 : Still H H1 := by rw [← hH1]; exact sz.set _ _ fun h => absurd h (Nat.lt_irrefl _)
    have f1 : H1.f H.n = .cells [.string x.key, .string x.val, .int .i64 (x.e : Int)] T.law_Entry true := by rw [← hH1]; exact set_f_eq
    have n1 : H1.n = H.n + 1 := by rw [← hH1, ← hHz]; rfl
    have hc : c < H.n := r.lt (.inl rfl)
    have ok1 := s1.ok ok
    have r1 := r.still s1
    have rm1 := rm.still s1
    have e1 := q_malive rm1 h ha
    have sp1 : ∀ b, blockOf v6 = some b → ¬ OB H1 c b ∧ ¬ LB H1 mb b := fun b hb => ⟨fun hh => (sp b hb).1 ((ob_still hc s1 fun h => h).1 hh), fun hh => (sp b hb).2 ((lb_still hm s1 fun h => h).1 hh)⟩
    have o1 := o.still s1
    cases hdu : dueB now x with
    | true =>
      rw [hdu] at e1
      have e2 := q_gets ok1 r1 x.key (mk []) 0 9 (getX_dead r hxS hdu)
      have e2 : CC F.law_gets [pt c, .string x.key, .string (mk []), .int .i64 0, .int .i64 9] H1 = some (.bool true, H1) := e2
      obtain ⟨v6', H', g1, g2, g3, g4, g5⟩ := l_a0 q (i + 1) n acc v6 H1 hd' (by omega) ok1 r1 rm1 o1 (by omega) sp1
      have hn : nextF now (x :: q) n = nextF now q n := by
        show nextF now q (nxF now n x) = _
        unfold nxF
        rw [hdu, if_pos rfl]
      refine ⟨v6', H', fun K => ?_, by rw [List.filter_cons, hdu]; exact g2, s1.still.trans g3, g4, fun b hb => (g5 b hb).imp id fun h => by omega⟩
      have ih := g1 K
      rw [Int.natCast_add] at ih
      rw [hn, r_law_alike_0]
      simp (disch := first | with_reducible rfl | assumption | omega | rfl | (simp only [go_sem]; first | done | omega)) only [go_sem, ↓reduceIte, reduceCtorEq, Nat.reduceEqDiff, Nat.reduceAdd, Nat.reduceSub, Nat.reduceMul, Nat.reduceDiv, Nat.reduceMod, Nat.reduceLeDiff, Nat.reduceLT, Nat.reduceBEq, Int.reduceEq, Int.reduceBEq, Int.reduceBNe, Int.reduceLT, Int.reduceLE, Int.reduceAdd, Int.reduceSub, Int.reduceNeg, Int.reduceToNat, Int.reducePow, Nat.reducePow, Int.reduceMul, Int.reduceDiv, ↓s_law_alike_b0, f0, hlen, hlt, ix, hcc, nw, fz, hH1, ↓enterK_eq e1, enterK_eq e1, Bool.not_true, Bool.not_false, f1, ↓enterK_eq e2, enterK_eq e2]
      exact ih
    | false =>
      rw [hdu] at e1
      obtain ⟨H2, hH2⟩ : ∃ H2, H1.push (.cells [.string x.key, .string x.val] T.api_Pair true) = H2 := ⟨_, rfl⟩
      have s2 : Still H1 H2 := by rw [← hH2]; exact (Fr.refl H1).push _
      have n2 : H2.n = H1.n + 1 := by rw [← hH2]; rfl
      have f2 : H2.f H1.n = .cells [.string x.key, .string x.val] T.api_Pair true := by rw [← hH2]; exact push_f_eq rfl
      have rl : Rd EPr H2 (.slice (some ⟨H1.n, 0, none⟩) 1 2) [toP x] := .inr (.inr ⟨H1.n, 0, _, rfl, by simp, by omega, by rw [f2]; rfl⟩)
      obtain ⟨v7, H3, ha3, o3, fr3, hb3⟩ := (o1.still s2).appE (m := [toP x]) (sz := 2) (bytes := 32) rfl (by simp; omega) (by simp; omega) (rl.src (sz := 2) rfl)
      have n3 := fr3.n
      have hc1 : c < H1.n := by omega
      have r2 := r1.still s2
      have rm2 := rm1.still s2
      have sp2 : ∀ b, blockOf v6 = some b → ¬ OB H2 c b ∧ ¬ LB H2 mb b := fun b hb => ⟨fun hh => (sp1 b hb).1 ((ob_still hc1 s2 fun h => h).1 hh), fun hh => (sp1 b hb).2 ((lb_still rm1.1 s2 fun h => h).1 hh)⟩
      have r3 : StR H3 c m E S now := r2.keep fr3 fun b _ h hh => (sp2 b h).1 hh
      have rm3 : LM H3 mb S now := rm2.keep fr3 fun b h hh => (sp2 b h).2 hh
      have ok3 := fr3.ok (s2.ok ok1)
      have hnc : ¬ OnlyOf v6 c := fun h => (sp2 c h).1 (.inl rfl)
      have hnm : ¬ OnlyOf v6 mb := fun h => (sp2 mb h).2 (.inl rfl)
      have hxn : ¬ OnlyOf v6 H.n := fun h => by
        have := o.blk (show blockOf v6 = some H.n from h)
        exact absurd this (Nat.lt_irrefl _)
      have f3 : H3.f H.n = .cells [.string x.key, .string x.val, .int .i64 (x.e : Int)] T.law_Entry true := by rw [fr3.f (by omega) hxn, s2.f (by omega) fun h => h]; exact f1
      have f2x : H2.f H.n = .cells [.string x.key, .string x.val, .int .i64 (x.e : Int)] T.law_Entry true := by rw [s2.f (by omega) fun h => h]; exact f1
      have sp3 : ∀ b, blockOf v7 = some b → ¬ OB H3 c b ∧ ¬ LB H3 mb b := fun b hb => by
        have hob : OB H3 c b ↔ OB H2 c b := ob_still (by omega) fr3 hnc
        have hlb : LB H3 mb b ↔ LB H2 mb b := lb_still rm2.1 fr3 hnm
        rcases hb3 with h | h
        · rw [h] at hb
          exact ⟨fun hh => (sp2 b hb).1 (hob.1 hh), fun hh => (sp2 b hb).2 (hlb.1 hh)⟩
        · rw [h] at hb
          cases hb
          exact ⟨fun hh => by have := r2.lt (hob.1 hh); omega, fun hh => by have := rm2.lt (hlb.1 hh); omega⟩
      have e2 := q_gets ok3 r3 x.key x.val x.e 0 (getX_live r hxS hdu)
      obtain ⟨v6', H', g1, g2, g3, g4, g5⟩ := l_a0 q (i + 1) (nxF now n x) (acc ++ [toP x]) v7 H3 hd' (by omega) ok3 r3 rm3 o3 (by simp; omega) sp3
      have hn : nextF now (x :: q) n = nextF now q (nxF now n x) := rfl
      have hfr : Fr (OnlyOf v6) H H' := ((s1.trans s2).still.trans fr3).then g3 fun b hb h => by
        rcases hb3 with e | e
        · unfold OnlyOf at h ⊢; rw [← e]; exact h
        · unfold OnlyOf at h; rw [e] at h; cases h; omega
      refine ⟨v6', H', fun K => ?_, by rw [List.filter_cons, hdu]; simpa using g2, hfr, g4, fun b hb => ?_⟩
      · have ih := g1 K
        rw [Int.natCast_add] at ih
        rw [hn]
        unfold nxF at ih ⊢
        rw [hdu, if_neg (by decide)] at ih ⊢
        rw [r_law_alike_0]
        by_cases h1 : 0 < x.e
        · have h1' : (0 : Int) < (x.e : Int) := by omega
          by_cases h2 : n = 0
          · have h2' : (n : Int) = 0 := by omega
            rw [if_pos ⟨h1, .inl h2⟩] at ih ⊢
            subst h2
            simp (disch := first | with_reducible rfl | assumption | omega | rfl | (simp only [go_sem]; first | done | omega)) only [go_sem, ↓reduceIte, reduceCtorEq, Nat.reduceEqDiff, Nat.reduceAdd, Nat.reduceSub, Nat.reduceMul, Nat.reduceDiv, Nat.reduceMod, Nat.reduceLeDiff, Nat.reduceLT, Nat.reduceBEq, Int.reduceEq, Int.reduceBEq, Int.reduceBNe, Int.reduceLT, Int.reduceLE, Int.reduceAdd, Int.reduceSub, Int.reduceNeg, Int.reduceToNat, Int.reducePow, Nat.reducePow, Int.reduceMul, Int.reduceDiv, ↓s_law_alike_b0, f0, hlen, hlt, ix, hcc, nw, fz, hH1, ↓enterK_eq e1, enterK_eq e1, Bool.not_true, Bool.not_false, f1, hH2, ↓ha3, ha3, f3, h1', ↓enterK_eq e2, enterK_eq e2]
            exact ih
          · have h2' : ¬ (n : Int) = 0 := by omega
            by_cases h3 : x.e < n
            · have h3' : (x.e : Int) < (n : Int) := by omega
              rw [if_pos ⟨h1, .inr h3⟩] at ih ⊢
              simp (disch := first | with_reducible rfl | assumption | omega | rfl | (simp only [go_sem]; first | done | omega)) only [go_sem, ↓reduceIte, reduceCtorEq, Nat.reduceEqDiff, Nat.reduceAdd, Nat.reduceSub, Nat.reduceMul, Nat.reduceDiv, Nat.reduceMod, Nat.reduceLeDiff, Nat.reduceLT, Nat.reduceBEq, Int.reduceEq, Int.reduceBEq, Int.reduceBNe, Int.reduceLT, Int.reduceLE, Int.reduceAdd, Int.reduceSub, Int.reduceNeg, Int.reduceToNat, Int.reducePow, Nat.reducePow, Int.reduceMul, Int.reduceDiv, ↓s_law_alike_b0, f0, hlen, hlt, ix, hcc, nw, fz, hH1, ↓enterK_eq e1, enterK_eq e1, Bool.not_true, Bool.not_false, f1, hH2, ↓ha3, ha3, f3, h1', h2', h3', ↓enterK_eq e2, enterK_eq e2]
              exact ih
            · have h3' : ¬ (x.e : Int) < (n : Int) := by omega
              rw [if_neg (fun h => h.2.elim h2 h3)] at ih ⊢
              simp (disch := first | with_reducible rfl | assumption | omega | rfl | (simp only [go_sem]; first | done | omega)) only [go_sem, ↓reduceIte, reduceCtorEq, Nat.reduceEqDiff, Nat.reduceAdd, Nat.reduceSub, Nat.reduceMul, Nat.reduceDiv, Nat.reduceMod, Nat.reduceLeDiff, Nat.reduceLT, Nat.reduceBEq, Int.reduceEq, Int.reduceBEq, Int.reduceBNe, Int.reduceLT, Int.reduceLE, Int.reduceAdd, Int.reduceSub, Int.reduceNeg, Int.reduceToNat, Int.reducePow, Nat.reducePow, Int.reduceMul, Int.reduceDiv, ↓s_law_alike_b0, f0, hlen, hlt, ix, hcc, nw, fz, hH1, ↓enterK_eq e1, enterK_eq e1, Bool.not_true, Bool.not_false, f1, hH2, ↓ha3, ha3, f3, h1', h2', h3', ↓enterK_eq e2, enterK_eq e2]
              exact ih
        · have h1' : ¬ (0 : Int) < (x.e : Int) := by omega
          rw [if_neg (fun h => h1 h.1)] at ih ⊢
          simp (disch := first | with_reducible rfl | assumption | omega | rfl | (simp only [go_sem]; first | done | omega)) only [go_sem, ↓reduceIte, reduceCtorEq, Nat.reduceEqDiff, Nat.reduceAdd, Nat.reduceSub, Nat.reduceMul, Nat.reduceDiv, Nat.reduceMod, Nat.reduceLeDiff, Nat.reduceLT, Nat.reduceBEq, Int.reduceEq, Int.reduceBEq, Int.reduceBNe, Int.reduceLT, Int.reduceLE, Int.reduceAdd, Int.reduceSub, Int.reduceNeg, Int.reduceToNat, Int.reducePow, Nat.reducePow, Int.reduceMul, Int.reduceDiv, ↓s_law_alike_b0, f0, hlen, hlt, ix, hcc, nw, fz, hH1, ↓enterK_eq e1, enterK_eq e1, Bool.not_true, Bool.not_false, f1, hH2, ↓ha3, ha3, f3, h1', ↓enterK_eq e2, enterK_eq e2]
          exact ih
      · rcases g5 b hb with h | h
        · rcases hb3 with e | e
          · exact .inl (by rw [← e]; exact h)
          · rw [e] at h; cases h; exact .inr (by omega)
        · exact .inr (by omega)
end

end Go.Proofs.Ythjjkinpbpealaa

/-
  Chapter 45: a store and the law's own model beside each other: alike, sweeps.
  Conditions: none. By an AI agent.
-/
set_option maxRecDepth 10000
set_option linter.unusedSimpArgs false
set_option linter.unusedVariables false
namespace Go.Proofs.Ythjjkinpbpealaa
open Go Eng
attribute [local congr] bareK_congr' bothK_congr' quietK_congr'

section
variable {c mb : Nat} {m : Option Nat} {E : Ec} {S : List En} {now : Nat}
theorem l_a2 {v0 v5 v6 v9 v10 : Value} {P : List Pr} (hP : P.length ≤ 20000) (hne : ∀ b, blockOf v10 = some b → blockOf v6 ≠ some b) : ∀ (q : List Pr) (i : Nat) (cur : List Pr) (H : AHeap), P.drop i = q → i ≤ P.length → cur.length = P.length → cur.drop i = q → Own EPr H T.api_Pair v10 cur → Rd EPr H v6 P →
    ∃ H', (∀ K, l_law_alike_2 v0 v5 v6 v9 v10 (.int .i64 (i : Int)) H (blkK [0, 5, 6, 9] 4 K) = K .normal [(0, v0), (5, v5), (6, v6), (9, v9)] H') ∧ Fr (OnlyOf v10) H H'
  | [], i, cur, H, hd, hi, hcl, hcd, o, r => by
    have h : P.length ≤ i := List.drop_eq_nil_iff.1 hd
    have hlt : ¬ (i : Int) < (P.length : Int) := by omega
    have hlen := o.rd.lenS
    rw [hcl] at hlen
    refine ⟨H, fun K => ?_, Fr.refl H⟩
    rw [r_law_alike_2]
    simp (disch := first | with_reducible rfl | assumption | omega | rfl | (simp only [go_sem]; first | done | omega)) only [go_sem, ↓reduceIte, reduceCtorEq, Nat.reduceEqDiff, Nat.reduceAdd, Nat.reduceSub, Nat.reduceMul, Nat.reduceDiv, Nat.reduceMod, Nat.reduceLeDiff, Nat.reduceLT, Nat.reduceBEq, Int.reduceEq, Int.reduceBEq, Int.reduceBNe, Int.reduceLT, Int.reduceLE, Int.reduceAdd, Int.reduceSub, Int.reduceNeg, Int.reduceToNat, Int.reducePow, Nat.reducePow, Int.reduceMul, Int.reduceDiv, ↓s_law_alike_b2, hlen, hlt]
  | a :: q, i, cur, H, hd, hi, hcl, hcd, o, r => by
    obtain ⟨h, ha, hd'⟩ := drop_pr hd
    obtain ⟨h2, ha2, hcd'⟩ := drop_pr hcd
    have hlt : (i : Int) < (P.length : Int) := by omega
    have hlen := o.rd.lenS
    rw [hcl] at hlen
    obtain ⟨b2, o2, ix2, hbn2, hcc2, hbl2⟩ := r.ix (q := .i64) h
    have ix2 : ixS 2 v6 (.int .i64 i) = some (.pointer (some ⟨b2, o2, none⟩)) := ix2
    rw [ha] at hcc2
    have hcc2 : cutB (H.f b2) o2 2 = some [.string a.key, .string a.value] := hcc2
    obtain ⟨bb, oo, ix, hbn, hcc, hbl⟩ := o.rd.ix (q := .i64) h2
    have ix : ixS 2 v10 (.int .i64 i) = some (.pointer (some ⟨bb, oo, none⟩)) := ix
    rw [ha2] at hcc
    have hcc : cutB (H.f bb) oo 2 = some [.string a.key, .string a.value] := hcc
    obtain ⟨b3, o3, H1, ix3, hw, ow, hbv, hb3, hn3, fr3⟩ := o.writeV h2 (mk [111, 116, 104, 101, 114])
    rw [ix] at ix3
    cases ix3
    have hne' : ∀ ox oy, xbin Try.prog .neq T.api_Pair ox oy (.agg #[.string a.key, .string a.value]) (.agg #[.string a.key, .string a.value]) = some (.bool false) := fun ox oy => by
      rw [pair_ne]
      simp
    have frv : Fr (OnlyOf v10) H H1 := fr3.mono fun b _ h => by unfold OnlyOf; rw [h]; exact hbv
    have r1 : Rd EPr H1 v6 P := r.keep frv fun b hb h => hne b h hb
    obtain ⟨H', g1, g2⟩ := l_a2 (v0 := v0) (v5 := v5) (v9 := v9) hP hne q (i + 1) (cur.set i ⟨cur[i].key, mk [111, 116, 104, 101, 114]⟩) H1 hd' (by omega) (by simpa using hcl) (by rw [List.drop_set_of_lt (by omega)]; exact hcd') ow r1
    refine ⟨H', fun K => ?_, frv.trans g2⟩
    have ih := g1 K
    rw [Int.natCast_add] at ih
    rw [r_law_alike_2]
    simp (disch := first | with_reducible rfl | assumption | omega | rfl | (simp only [go_sem]; first | done | omega)) only [go_sem, ↓reduceIte, reduceCtorEq, Nat.reduceEqDiff, Nat.reduceAdd, Nat.reduceSub, Nat.reduceMul, Nat.reduceDiv, Nat.reduceMod, Nat.reduceLeDiff, Nat.reduceLT, Nat.reduceBEq, Int.reduceEq, Int.reduceBEq, Int.reduceBNe, Int.reduceLT, Int.reduceLE, Int.reduceAdd, Int.reduceSub, Int.reduceNeg, Int.reduceToNat, Int.reducePow, Nat.reducePow, Int.reduceMul, Int.reduceDiv, ↓s_law_alike_b2, hlen, hlt, ix, hcc, ix2, hcc2, ↓hne', hne', hw]
    exact ih

theorem l_a1 {v5 v6 : Value} : ∀ (d i : Nat) (H : AHeap), i + d = 2 → Ok H → StR H c m E S now → Rd EPr H v6 (aliveS S now) → (∀ b, blockOf v6 = some b → b < H.n) →
    ∃ H', (∀ K, l_law_alike_1 (pt c) v5 v6 (.int .i64 (i : Int)) H (blkK [0, 5] 2 K) = K .normal [(0, pt c), (5, v5)] H') ∧ Still H H'
  | 0, i, H, hi, ok, r, r6, hb6 => by
    have hlt : ¬ (i : Int) < 2 := by omega
    refine ⟨H, fun K => ?_, Fr.refl H⟩
    rw [r_law_alike_1]
    simp (disch := first | with_reducible rfl | assumption | omega | rfl | (simp only [go_sem]; first | done | omega)) only [go_sem, ↓reduceIte, reduceCtorEq, Nat.reduceEqDiff, Nat.reduceAdd, Nat.reduceSub, Nat.reduceMul, Nat.reduceDiv, Nat.reduceMod, Nat.reduceLeDiff, Nat.reduceLT, Nat.reduceBEq, Int.reduceEq, Int.reduceBEq, Int.reduceBNe, Int.reduceLT, Int.reduceLE, Int.reduceAdd, Int.reduceSub, Int.reduceNeg, Int.reduceToNat, Int.reducePow, Nat.reducePow, Int.reduceMul, Int.reduceDiv, ↓s_law_alike_b1, hlt]
  | d + 1, i, H, hi, ok, r, r6, hb6 => by
    have hlt : (i : Int) < 2 := by omega
    obtain ⟨v10, H1, e1, o1, s1, nb⟩ := q_xAlive ok r
    have hal := alive_len r.srt now
    have hsl := r.len
    have hPl : (aliveS S now).length ≤ 20000 := by omega
    have h6 := r6.still s1
    have hl1 := o1.rd.lenS
    have hl6 := h6.lenS
    obtain ⟨H2, g1, g2⟩ := l_a2 (v0 := pt c) (v5 := v5) (v9 := .int .i64 (i : Int)) hPl (fun b hb h => by have := hb6 b h; have := (nb b hb).1; omega) (aliveS S now) 0 (aliveS S now) H1 rfl (Nat.zero_le _) rfl rfl o1 h6
    have g1 : ∀ K, l_law_alike_2 (pt c) v5 v6 (.int .i64 (i : Int)) v10 (.int .i64 0) H1 (blkK [0, 5, 6, 9] 4 K) = K .normal [(0, pt c), (5, v5), (6, v6), (9, .int .i64 (i : Int))] H2 := g1
    have s2 : Still H H2 := s1.then g2 fun b hb h => by unfold OnlyOf at h; have := (nb b h).1; omega
    have n2 := s2.n
    obtain ⟨H', k1, k2⟩ := l_a1 (v5 := v5) (v6 := v6) d (i + 1) H2 (by omega) (s2.ok ok) (r.still s2) (r6.still s2) (fun b hb => by have := hb6 b hb; omega)
    refine ⟨H', fun K => ?_, s2.trans k2⟩
    have ih := k1 K
    rw [Int.natCast_add] at ih
    rw [r_law_alike_1]
    simp (disch := first | with_reducible rfl | assumption | omega | rfl | (simp only [go_sem]; first | done | omega)) only [go_sem, ↓reduceIte, reduceCtorEq, Nat.reduceEqDiff, Nat.reduceAdd, Nat.reduceSub, Nat.reduceMul, Nat.reduceDiv, Nat.reduceMod, Nat.reduceLeDiff, Nat.reduceLT, Nat.reduceBEq, Int.reduceEq, Int.reduceBEq, Int.reduceBNe, Int.reduceLT, Int.reduceLE, Int.reduceAdd, Int.reduceSub, Int.reduceNeg, Int.reduceToNat, Int.reducePow, Nat.reducePow, Int.reduceMul, Int.reduceDiv, ↓s_law_alike_b1, hlt, ↓enterK_eq e1, enterK_eq e1, hl1, hl6, g1]
    exact ih

theorem q_alike {H : AHeap} (ok : Ok H) (r : StR H c m E S now) (rm : LM H mb S now) : CC F.law_alike [pt c, pt mb] H = some (.bool true, H) := by
  have hsl := r.len
  have e1 := q_xNow r
  have e2 := q_Waiting r
  obtain ⟨v1, H1, e3, o1, s1, nb1⟩ := q_mwaiting rm (by omega)
  have r1 := r.still s1
  have rm1 := rm.still s1
  have e4 := q_xLen r1
  obtain ⟨v2, H2, e5, o2, s2, nb2⟩ := q_mwaiting rm1 (by omega)
  have r2 := r1.still s2
  have rm2 := rm1.still s2
  have ok2 := s2.ok (s1.ok ok)
  have hl1 := o1.rd.lenS
  have hl2 := o2.rd.lenS
  have hwl := wS_le S now
  obtain ⟨hm, u, f0, o0, g0⟩ := id rm
  obtain ⟨hm1, u1, f1, o01, g01⟩ := id rm1
  have hlen1 := o01.rd.lenS
  obtain ⟨D, hD⟩ : ∃ D, S.length - (wS S now).length = D := ⟨_, rfl⟩
  obtain ⟨wn, hwn⟩ : ∃ wn, (wS S now).length = wn := ⟨_, rfl⟩
  obtain ⟨sn, hsn⟩ : ∃ sn, S.length = sn := ⟨_, rfl⟩
  rw [hD] at e4
  rw [hwn] at e2 hl1 hl2
  rw [hsn] at hlen1
  have hsub : ∀ ox oy, xbin Try.prog .sub T.int ox oy (.int .i64 (sn : Int)) (.int .i64 (wn : Int)) = some (.int .i64 (D : Int)) := fun ox oy => by
    rw [sub_i64 (by omega)]
    congr 3
    omega
  have ck : ∀ go, okV go (some mb) H1 H2 H1 H1 = true := fun go => okV_some (.inr (s2.ver hm1 fun h => h)) (.inl (Nat.le_refl _))
  obtain ⟨v6, H3, k1, o3, fr3, sp3, nb3⟩ := l_a0 (m := m) (E := E) S 0 0 [] (.slice none 0 0) H2 rfl (Nat.zero_le _) ok2 r2 rm2 Own.nil (Nat.zero_le _) (fun b h => by cases h)
  have k1 : ∀ K, l_law_alike_0 (pt c) (pt mb) (.int .i64 0) (.slice none 0 0) (.int .i64 0) H2 (blkK [0, 5, 6] 0 K) = K .normal [(0, pt c), (5, .int .i64 (nextF now S 0 : Int)), (6, v6)] H3 := k1
  have s3 : Still H2 H3 := still_nil fr3
  have hal : [] ++ (S.filter fun x => !dueB now x).map toP = aliveS S now := by
    rw [List.nil_append, alive_eq r.srt]
    rfl
  rw [hal] at o3
  have r3 := r2.still s3
  have ok3 := s3.ok ok2
  obtain ⟨H4, k2, s4⟩ := l_a1 (v5 := .int .i64 (nextF now S 0 : Int)) (v6 := v6) (m := m) (E := E) (S := S) (now := now) (c := c) 2 0 H3 rfl ok3 r3 o3.rd (fun b hb => o3.blk hb)
  have k2 : ∀ K, l_law_alike_1 (pt c) (.int .i64 (nextF now S 0 : Int)) v6 (.int .i64 0) H3 (blkK [0, 5] 2 K) = K .normal [(0, pt c), (5, .int .i64 (nextF now S 0 : Int))] H4 := k2
  have r4 := r3.still s4
  have e6 := q_xNext r4
  have st : Still H H4 := ((s1.trans s2).trans s3).trans s4
  generalize nextF now S 0 = nx at k1 k2 e6
  refine pure_of (H' := H4) ?_ (d_law_alike _ _ H) rfl st
  simp (disch := first | with_reducible rfl | assumption | omega | rfl | (simp only [go_sem]; first | done | omega)) only [go_sem, ↓reduceIte, reduceCtorEq, Nat.reduceEqDiff, Nat.reduceAdd, Nat.reduceSub, Nat.reduceMul, Nat.reduceDiv, Nat.reduceMod, Nat.reduceLeDiff, Nat.reduceLT, Nat.reduceBEq, Int.reduceEq, Int.reduceBEq, Int.reduceBNe, Int.reduceLT, Int.reduceLE, Int.reduceAdd, Int.reduceSub, Int.reduceNeg, Int.reduceToNat, Int.reducePow, Nat.reducePow, Int.reduceMul, Int.reduceDiv, ↓s_law_alike, ↓enterK_eq e1, enterK_eq e1, f0, ↓enterK_eq e2, enterK_eq e2, ↓enterK_eq e3, enterK_eq e3, hl1, ↓enterK_eq e4, enterK_eq e4, f1, hlen1, ↓enterK_eq e5, enterK_eq e5, hl2, ↓hsub, hsub, ck, k1, k2, ↓enterK_eq e6, enterK_eq e6]

/-! ### sweeps -/
theorem l_sw {H : AHeap} {v2 v9 : Value} {G : List ByteArray} (r2 : Rd EStr H v2 G) (r9 : Rd EStr H v9 G) (hl : G.length ≤ 20000) (K : K) : ∀ (q : List ByteArray) (i : Nat), G.drop i = q → i ≤ G.length →
    l_law_sweeps_0 v2 v9 (.int .i64 (i : Int)) H (blkK [] 0 K) = K .normal [] H
  | [], i, hd, hi => by
    have h : G.length ≤ i := List.drop_eq_nil_iff.1 hd
    have hlt : ¬ (i : Int) < (G.length : Int) := by omega
    have hlen := r9.lenS
    rw [r_law_sweeps_0]
    simp (disch := first | with_reducible rfl | assumption | omega | rfl | (simp only [go_sem]; first | done | omega)) only [go_sem, ↓reduceIte, reduceCtorEq, Nat.reduceEqDiff, Nat.reduceAdd, Nat.reduceSub, Nat.reduceMul, Nat.reduceDiv, Nat.reduceMod, Nat.reduceLeDiff, Nat.reduceLT, Nat.reduceBEq, Int.reduceEq, Int.reduceBEq, Int.reduceBNe, Int.reduceLT, Int.reduceLE, Int.reduceAdd, Int.reduceSub, Int.reduceNeg, Int.reduceToNat, Int.reducePow, Nat.reducePow, Int.reduceMul, Int.reduceDiv, ↓s_law_sweeps_b0, hlen, hlt]
  | k :: q, i, hd, hi => by
    have h : i < G.length := by
      rcases Nat.lt_or_ge i G.length with h | h
      · exact h
      · rw [List.drop_eq_nil_of_le h] at hd; cases hd
    have ha : G[i] = k := by rw [List.drop_eq_getElem_cons h] at hd; exact (List.cons.inj hd).1
    have hd' : G.drop (i + 1) = q := by rw [List.drop_eq_getElem_cons h] at hd; exact (List.cons.inj hd).2
    have hlt : (i : Int) < (G.length : Int) := by omega
    have hlen := r9.lenS
    obtain ⟨bb, o, ix, hbn, hcc, hbl⟩ := r9.ix (q := .i64) h
    have ix : ixS 1 v9 (.int .i64 i) = some (.pointer (some ⟨bb, o, none⟩)) := ix
    have c0 : cellB (H.f bb) o = some (.string k) := by
      have := cutB_cell hcc (i := 0) (by decide)
      rw [ha] at this
      exact this
    obtain ⟨b2, o2, ix2, hbn2, hcc2, hbl2⟩ := r2.ix (q := .i64) h
    have ix2 : ixS 1 v2 (.int .i64 i) = some (.pointer (some ⟨b2, o2, none⟩)) := ix2
    have c2 : cellB (H.f b2) o2 = some (.string k) := by
      have := cutB_cell hcc2 (i := 0) (by decide)
      rw [ha] at this
      exact this
    have ih := l_sw r2 r9 hl K q (i + 1) hd' (by omega)
    rw [Int.natCast_add] at ih
    rw [r_law_sweeps_0]
    simp (disch := first | with_reducible rfl | assumption | omega | rfl | (simp only [go_sem]; first | done | omega)) only [go_sem, ↓reduceIte, reduceCtorEq, Nat.reduceEqDiff, Nat.reduceAdd, Nat.reduceSub, Nat.reduceMul, Nat.reduceDiv, Nat.reduceMod, Nat.reduceLeDiff, Nat.reduceLT, Nat.reduceBEq, Int.reduceEq, Int.reduceBEq, Int.reduceBNe, Int.reduceLT, Int.reduceLE, Int.reduceAdd, Int.reduceSub, Int.reduceNeg, Int.reduceToNat, Int.reducePow, Nat.reducePow, Int.reduceMul, Int.reduceDiv, ↓s_law_sweeps_b0, hlen, hlt, ix, c0, ix2, c2]
    exact ih
theorem q_sweeps {H : AHeap} (ok : Ok H) (r : StR H c m E S now) (n : Int) {w : Value} {G : List ByteArray} (hG : (if n < 1 then [] else (wS S now).take n.toNat) = G) (rw_ : Rd EStr H w G) (hw : ∀ b, blockOf w = some b → ¬ OB H c b) :
    ∃ m' E' H', CC F.law_sweeps [pt c, .int .i64 n, w, .int .i64 (if n < 1 then 2 else 0)] H = some (.bool true, H') ∧ StR H' c m' E' (sweepS S G) now ∧ UpX H c H' := by
  obtain ⟨v, m1, E1, H1, e1, r9, r1, u1, nb⟩ := q_xSweep ok r n
  rw [hG] at r9 r1
  have r2 : Rd EStr H1 w G := rw_.keep u1.fr fun b hb h => hw b hb h
  have hl9 := r9.lenS
  have hl2 := r2.lenS
  have hGl : G.length ≤ 20000 := by
    have := wS_le S now
    have := r.len
    rw [← hG]
    split
    · simp
    · rw [List.length_take]; omega
  have k1 := fun K => l_sw r2 r9 hGl K G 0 rfl (Nat.zero_le _)
  have k1 : ∀ K, l_law_sweeps_0 w v (.int .i64 0) H1 (blkK [] 0 K) = K .normal [] H1 := k1
  obtain ⟨m2, E2, H2, ht, r3, u3⟩ := tidyX (v := .bool true) ok r r1 u1
  refine ⟨m2, E2, H2, (d_law_sweeps _ _ _ _ H (r := (.bool true, H1)) ?_).trans (congrArg some ht), r3, u3⟩
  generalize (if n < 1 then (2 : Int) else 0) = no at e1 ⊢
  simp (disch := first | with_reducible rfl | assumption | omega | rfl | (simp only [go_sem]; first | done | omega)) only [go_sem, ↓reduceIte, reduceCtorEq, Nat.reduceEqDiff, Nat.reduceAdd, Nat.reduceSub, Nat.reduceMul, Nat.reduceDiv, Nat.reduceMod, Nat.reduceLeDiff, Nat.reduceLT, Nat.reduceBEq, Int.reduceEq, Int.reduceBEq, Int.reduceBNe, Int.reduceLT, Int.reduceLE, Int.reduceAdd, Int.reduceSub, Int.reduceNeg, Int.reduceToNat, Int.reducePow, Nat.reducePow, Int.reduceMul, Int.reduceDiv, ↓s_law_sweeps, ↓enterK_eq e1, enterK_eq e1, hl9, hl2, k1]
end

end Go.Proofs.Ythjjkinpbpealaa

/-
  The seat's functions as terms over the engine's combinators (a program of ours printed it).
  Conditions: none. By an AI agent.
-/
set_option linter.unusedVariables false
namespace Go.Proofs.Ythjjkinpbpealaa
open Go Eng

/-! ticketline.ticketlinelaw45.ExpirePlays -/

noncomputable def s_law_ExpirePlays (mg : GT) (mc : CT) (ms : ST) (P : Program) (C : CallF) (L0 : Value → Value → Value → Value → AHeap → K → Res) (L1 : Value → Value → Value → Value → Value → Value → Value → AHeap → K → Res) (a0 : Value) (H : AHeap) (K0 : K) : Res :=
enterK C F.law_small [a0, (.int .i64 36)] H fun t14 h1 =>
bareK (xun P .not t14) h1 fun t15 h2 =>
mc t15 (fun k1 => enterK C F.law_known [] h2 fun t16 h3 =>
k1 .ret [(2, t16)] h3) (fun k1 =>
k1 .normal [(0, a0)] h2) (seqK (fun tT h4 =>
bareK (bldS #[(.slice none 0 0), (.map none), (.int .i64 0)] [(0, 1), (1, 1), (2, 1)] []) h4 fun t17 h5 =>
bothK (newv T.expire_Store t17 h5) fun t18 h6 =>
bareK (bldS #[(.slice none 0 0), (.int .i64 0)] [(0, 1), (1, 1)] []) h6 fun t19 h7 =>
bothK (newv T.law_Model t19 h7) fun t20 h8 =>
ms (fun k2 =>
L0 (get tT 0) t18 t20 (.int .i64 0) h8 (blkK [] 0 k2)) (seqK (fun tT_1 h9 =>
enterK C F.law_known [] h9 fun t134 h10 =>
K0 .ret [(2, t134)] h10) K0)) K0)

noncomputable def s_law_ExpirePlays_b0 (mg : GT) (mc : CT) (ms : ST) (P : Program) (C : CallF) (L0 : Value → Value → Value → Value → AHeap → K → Res) (L1 : Value → Value → Value → Value → Value → Value → Value → AHeap → K → Res) (v0 : Value) (v3 : Value) (v4 : Value) (v5 : Value) (H : AHeap) (k : K) : Res :=
bareK (lenS v0) H fun t23 h9 =>
bareK (xbin P .lss T.int (.tmp 21) (.tmp 23) v5 t23) h9 fun t24 h10 =>
mc t24 (fun k3 => k3 .normal [(0, v0), (3, v3), (4, v4), (5, v5)] h10) (fun k3 =>
k3 (.exit 0) [(24, t24), (23, t23), (22, v0), (21, v5), (0, v0), (3, v3), (4, v4), (5, v5)] h10) (seqK (fun tT h11 =>
ms (fun k4 =>
bareK (ixS 4 (get tT 0) (get tT 5)) h11 fun t29 h12 =>
bareK (ldN 4 h12 t29) h12 fun t30 h13 =>
bothK (newv T.law_Act (.agg #[(.int .i64 0), (.string (mk [])), (.string (mk [])), (.int .i64 0)]) h13) fun t6 h14 =>
quietK (stN 4 h14 t6 t30) fun _ h15 =>
ms (fun k5 =>
bareK (fad 0 t6) h15 fun t41 h16 =>
bareK (ld1 h16 t41) h16 fun t42 h17 =>
bareK (xbin P .geq T.int (.tmp 42) (.const (.int .i64 0)) t42 (.int .i64 0)) h17 fun t43 h18 =>
mg t43 true (fun o6 => bareK (fad 0 t6) h18 o6) h18 fun t45 h19 =>
mg t43 true (fun o7 => bareK (ld1 h19 t45) h19 o7) h19 fun t46 h20 =>
mg t43 true (fun o8 => bareK (xbin P .leq T.int (.tmp 46) (.const (.int .i64 3)) t46 (.int .i64 3)) h20 o8) h20 fun t47 h21 =>
pickK t43 t47 (.bool false) fun t48 =>
mc t48 (fun k9 => bareK (ldN 4 h21 t6) h21 fun t50 h22 =>
enterK C F.law_calls [(get tT 3), t50] h22 fun t51 h23 =>
bareK (ldN 4 h23 t6) h23 fun t53 h24 =>
enterK C F.law_Model_do [(get tT 4), t53] h24 fun t54 h25 =>
bareK (xbin P .eql T.api_Errno (.tmp 51) (.tmp 54) t51 t54) h25 fun t55 h26 =>
checkK (okV (some true) none h22 h23 h23 h23 && (okV (some true) (blockOf t6) h22 h23 h23 h24 && true)) <|
k9 .normal [(0, (get tT 0)), (3, (get tT 3)), (4, (get tT 4)), (5, (get tT 5)), (7, t55)] h26) (fun k9 =>
bareK (fad 0 t6) h21 fun t57 h27 =>
bareK (ld1 h27 t57) h27 fun t58 h28 =>
bareK (xbin P .eql T.int (.tmp 58) (.const (.int .i64 4)) t58 (.int .i64 4)) h28 fun t59 h29 =>
mc t59 (fun k10 => bareK (fad 3 t6) h29 fun t60 h30 =>
bareK (ld1 h30 t60) h30 fun t61 h31 =>
bareK (xbin P .lss T.int (.tmp 61) (.const (.int .i64 1)) t61 (.int .i64 1)) h31 fun t62 h32 =>
mc t62 (fun k11 => bareK (fad 3 t6) h32 fun t64 h33 =>
bareK (ld1 h33 t64) h33 fun t65 h34 =>
enterK C F.law_sweeps [(get tT 3), t65, (.slice none 0 0), (.int .i64 2)] h34 fun t66 h35 =>
k11 (.exit 2) ((7, t66) :: (66, t66) :: (65, t65) :: (64, t64) :: (63, (get tT 3)) :: (62, t62) :: (61, t61) :: (60, t60) :: (56, t59) :: (59, t59) :: (58, t58) :: (57, t57) :: (40, t48) :: (48, t48) :: (47, t47) :: (46, t46) :: (45, t45) :: (44, t43) :: (43, t43) :: (42, t42) :: (41, t41) :: (7, (.bool true)) :: (6, t6) :: (30, t30) :: (29, t29) :: (28, (get tT 5)) :: (27, (get tT 0)) :: tT) h35) (fun k11 =>
k11 .normal [(0, (get tT 0)), (3, (get tT 3)), (4, (get tT 4)), (5, (get tT 5)), (6, t6)] h32) (seqK (fun tT_1 h36 =>
enterK C F.law_Model_waiting [(get tT_1 4)] h36 fun t68 h37 =>
bareK (fad 3 (get tT_1 6)) h37 fun t70 h38 =>
bareK (ld1 h38 t70) h38 fun t71 h39 =>
bareK (lenS t68) h39 fun t73 h40 =>
nextK C h40 (xbuiltin P .min [T.int, T.int] [t71, t73] h40) fun t74 h41 =>
bareK (slS T.string 1 t68 none (some t74) none h41) h41 fun t75 h42 =>
ms (fun k12 =>
L1 (get tT_1 0) (get tT_1 3) (get tT_1 4) (get tT_1 5) (get tT_1 6) t75 (.int .i64 0) h42 (blkK [0, 3, 4, 5, 6, 8] 3 k12)) (seqK (fun tT_2 h43 =>
bareK (fad 3 (get tT_2 6)) h43 fun t94 h44 =>
bareK (ld1 h44 t94) h44 fun t95 h45 =>
enterK C F.law_sweeps [(get tT_2 3), t95, (get tT_2 8), (.int .i64 0)] h45 fun t97 h46 =>
k10 .normal [(0, (get tT_2 0)), (3, (get tT_2 3)), (4, (get tT_2 4)), (5, (get tT_2 5)), (7, t97)] h46) (afterK [0, 3, 4, 5, 7] k10))) (afterK [0, 3, 4, 5, 7] k10))) (fun k10 =>
bareK (fad 0 t6) h29 fun t99 h47 =>
bareK (ld1 h47 t99) h47 fun t100 h48 =>
bareK (xbin P .eql T.int (.tmp 100) (.const (.int .i64 5)) t100 (.int .i64 5)) h48 fun t101 h49 =>
mc t101 (fun k13 => bareK (fad 1 t6) h49 fun t102 h50 =>
bareK (ld1 h50 t102) h50 fun t103 h51 =>
enterK C F.law_bad [t103, (.string (mk []))] h51 fun t104 h52 =>
bareK (fad 1 t6) h52 fun t106 h53 =>
bareK (ld1 h53 t106) h53 fun t107 h54 =>
enterK C F.law_Model_find [(get tT 4), t107] h54 fun t108 h55 =>
bareK (xbin P .eql T.api_Errno (.tmp 109) (.const (.int .i64 0)) t104 (.int .i64 0)) h55 fun t110 h56 =>
mg t110 true (fun o14 => o14 (get tT 4) h56) h56 fun t112 h57 =>
mg t110 true (fun o15 => o15 t108 h57) h57 fun t113 h58 =>
mg t110 true (fun o16 => enterK C F.law_Model_alive [t112, t113] h58 o16) h58 fun t114 h59 =>
mg t110 true (fun o17 => bareK (xun P .not t114) h59 o17) h59 fun t115 h60 =>
pickK t110 t115 (.bool false) fun t116 =>
mc t116 (fun k18 => k18 .normal [(0, (get tT 0)), (3, (get tT 3)), (4, (get tT 4)), (5, (get tT 5)), (6, t6), (10, (.int .i64 9))] h60) (fun k18 =>
k18 .normal [(0, (get tT 0)), (3, (get tT 3)), (4, (get tT 4)), (5, (get tT 5)), (6, t6), (10, t104)] h60) (seqK (fun tT_3 h61 =>
bareK (xbin P .eql T.api_Errno (.tmp 117) (.const (.int .i64 0)) (get tT_3 10) (.int .i64 0)) h61 fun t118 h62 =>
mg t118 false (fun o19 => o19 (get tT_3 3) h62) h62 fun t120 h63 =>
mg t118 false (fun o20 => bareK (fad 1 (get tT_3 6)) h63 o20) h63 fun t121 h64 =>
mg t118 false (fun o21 => bareK (ld1 h64 t121) h64 o21) h64 fun t122 h65 =>
mg t118 false (fun o22 => o22 (get tT_3 10) h65) h65 fun t123 h66 =>
mg t118 false (fun o23 => enterK C F.law_gets [t120, t122, (.string (mk [])), (.int .i64 0), t123] h66 o23) h66 fun t124 h67 =>
pickK t118 (.bool true) t124 fun t125 =>
k13 .normal [(0, (get tT_3 0)), (3, (get tT_3 3)), (4, (get tT_3 4)), (5, (get tT_3 5)), (7, t125)] h67) (afterK [0, 3, 4, 5, 7] k13))) (fun k13 =>
enterK C F.expire_Store_Copy [(get tT 3)] h49 fun t32 h68 =>
enterK C F.expire_Store_Put [(get tT 3), (.string (mk [111, 116, 104, 101, 114])), (.string (mk [120])), (.int .i64 0)] h68 fun t34 h69 =>
enterK C F.expire_Store_Pass [(get tT 3), (.int .i64 1099511627776)] h69 fun t36 h70 =>
enterK C F.expire_Store_Sweep [(get tT 3), (.int .i64 1)] h70 fun t38 h71 =>
k13 .normal [(0, (get tT 0)), (3, t32), (4, (get tT 4)), (5, (get tT 5)), (7, (.bool true))] h71) (afterK [0, 3, 4, 5, 7] k10)) (afterK [0, 3, 4, 5, 7] k9)) (blkK [0, 3, 4, 5, 7] 2 k5)) (seqK (fun tT_4 h72 =>
bareK (xun P .not (get tT_4 7)) h72 fun t127 h73 =>
mg t127 false (fun o24 => o24 (get tT_4 3) h73) h73 fun t129 h74 =>
mg t127 false (fun o25 => o25 (get tT_4 4) h74) h74 fun t130 h75 =>
mg t127 false (fun o26 => enterK C F.law_alike [t129, t130] h75 o26) h75 fun t131 h76 =>
mg t127 false (fun o27 => bareK (xun P .not t131) h76 o27) h76 fun t132 h77 =>
pickK t127 (.bool true) t132 fun t133 =>
mc t133 (fun k28 => k28 .ret [(2, (.bool false))] h77) (fun k28 =>
k28 .normal [(0, (get tT_4 0)), (3, (get tT_4 3)), (4, (get tT_4 4)), (5, (get tT_4 5))] h77) (blkK [0, 3, 4, 5] 1 k4)) (blkK [0, 3, 4, 5] 1 k4))) (seqK (fun tT_5 h78 =>
bareK (xbin P .add T.int (.tmp 25) (.const (.int .i64 1)) (get tT_5 5) (.int .i64 1)) h78 fun t26 h79 =>
k .normal [(0, (get tT_5 0)), (3, (get tT_5 3)), (4, (get tT_5 4)), (5, t26)] h79) (afterK [0, 3, 4, 5] k))) (afterK [0, 3, 4, 5] k))

noncomputable def s_law_ExpirePlays_b1 (mg : GT) (mc : CT) (ms : ST) (P : Program) (C : CallF) (L0 : Value → Value → Value → Value → AHeap → K → Res) (L1 : Value → Value → Value → Value → Value → Value → Value → AHeap → K → Res) (v0 : Value) (v3 : Value) (v4 : Value) (v5 : Value) (v6 : Value) (v8 : Value) (v9 : Value) (H : AHeap) (k : K) : Res :=
bareK (lenS v8) H fun t78 h43 =>
bareK (xbin P .lss T.int (.tmp 76) (.tmp 78) v9 t78) h43 fun t79 h44 =>
mc t79 (fun k13 => k13 .normal [(0, v0), (3, v3), (4, v4), (5, v5), (6, v6), (8, v8), (9, v9)] h44) (fun k13 =>
k13 (.exit 3) [(79, t79), (78, t78), (77, v8), (76, v9), (0, v0), (3, v3), (4, v4), (5, v5), (6, v6), (8, v8), (9, v9)] h44) (seqK (fun tT h45 =>
ms (fun k14 =>
bareK (ixS 1 (get tT 8) (get tT 9)) h45 fun t87 h46 =>
bareK (ld1 h46 t87) h46 fun t88 h47 =>
enterK C F.law_Model_find [(get tT 4), t88] h47 fun t89 h48 =>
enterK C F.law_Model_without [(get tT 4), t89] h48 fun t90 h49 =>
bareK (xnilCheck (get tT 4)) h49 fun t91 h50 =>
bareK (fad 0 t91) h50 fun t92 h51 =>
quietK (st1 h51 t92 t90) fun _ h52 =>
k14 .normal [(0, (get tT 0)), (3, (get tT 3)), (4, (get tT 4)), (5, (get tT 5)), (6, (get tT 6)), (8, (get tT 8)), (9, (get tT 9))] h52) (seqK (fun tT_1 h53 =>
bareK (xbin P .add T.int (.tmp 80) (.const (.int .i64 1)) (get tT_1 9) (.int .i64 1)) h53 fun t81 h54 =>
k .normal [(0, (get tT_1 0)), (3, (get tT_1 3)), (4, (get tT_1 4)), (5, (get tT_1 5)), (6, (get tT_1 6)), (8, (get tT_1 8)), (9, t81)] h54) (afterK [0, 3, 4, 5, 6, 8, 9] k))) (afterK [0, 3, 4, 5, 6, 8, 9] k))

theorem s_law_ExpirePlays_eq (M : CombL) (C : CallF) (LP : LoopH) (a0 : Value) (H : AHeap) : dBodyL M Try.prog hints C LP F.law_ExpirePlays [a0] H = s_law_ExpirePlays M.b.g M.c M.s Try.prog C (fun v0 v3 v4 v5 H k => loopL M Try.prog hints C LP F.law_ExpirePlays 0 [(0, v0), (3, v3), (4, v4), (5, v5)] H k) (fun v0 v3 v4 v5 v6 v8 v9 H k => loopL M Try.prog hints C LP F.law_ExpirePlays 1 [(0, v0), (3, v3), (4, v4), (5, v5), (6, v6), (8, v8), (9, v9)] H k) a0 H (endK Try.prog [.tmp 2]) := by kernel_rfl

theorem s_law_ExpirePlays_b0_eq (M : CombL) (C : CallF) (LP : LoopH) (v0 : Value) (v3 : Value) (v4 : Value) (v5 : Value) (H : AHeap) (k : K) : bodyL M Try.prog hints C LP F.law_ExpirePlays 0 [(0, v0), (3, v3), (4, v4), (5, v5)] H (afterK [0, 3, 4, 5] k) = s_law_ExpirePlays_b0 M.b.g M.c M.s Try.prog C (fun v0 v3 v4 v5 H k => loopL M Try.prog hints C LP F.law_ExpirePlays 0 [(0, v0), (3, v3), (4, v4), (5, v5)] H k) (fun v0 v3 v4 v5 v6 v8 v9 H k => loopL M Try.prog hints C LP F.law_ExpirePlays 1 [(0, v0), (3, v3), (4, v4), (5, v5), (6, v6), (8, v8), (9, v9)] H k) v0 v3 v4 v5 H k := by kernel_rfl

theorem s_law_ExpirePlays_b1_eq (M : CombL) (C : CallF) (LP : LoopH) (v0 : Value) (v3 : Value) (v4 : Value) (v5 : Value) (v6 : Value) (v8 : Value) (v9 : Value) (H : AHeap) (k : K) : bodyL M Try.prog hints C LP F.law_ExpirePlays 1 [(0, v0), (3, v3), (4, v4), (5, v5), (6, v6), (8, v8), (9, v9)] H (afterK [0, 3, 4, 5, 6, 8, 9] k) = s_law_ExpirePlays_b1 M.b.g M.c M.s Try.prog C (fun v0 v3 v4 v5 H k => loopL M Try.prog hints C LP F.law_ExpirePlays 0 [(0, v0), (3, v3), (4, v4), (5, v5)] H k) (fun v0 v3 v4 v5 v6 v8 v9 H k => loopL M Try.prog hints C LP F.law_ExpirePlays 1 [(0, v0), (3, v3), (4, v4), (5, v5), (6, v6), (8, v8), (9, v9)] H k) v0 v3 v4 v5 v6 v8 v9 H k := by kernel_rfl

end Go.Proofs.Ythjjkinpbpealaa

/-
  The equations of the seat's functions over calls in the limit (a program of ours printed it).
  Conditions: none. By an AI agent.
-/
set_option linter.unusedVariables false
namespace Go.Proofs.Ythjjkinpbpealaa
open Go Eng

theorem u_law_Model : Try.prog.underlying T.law_Model = Try.prog.underlying 54 := rfl

noncomputable def l_law_ExpirePlays_0 (v0 : Value) (v3 : Value) (v4 : Value) (v5 : Value) (H : AHeap) (k : K) : Res := loopL stdL Try.prog hints CC limLP F.law_ExpirePlays 0 [(0, v0), (3, v3), (4, v4), (5, v5)] H k
noncomputable def l_law_ExpirePlays_1 (v0 : Value) (v3 : Value) (v4 : Value) (v5 : Value) (v6 : Value) (v8 : Value) (v9 : Value) (H : AHeap) (k : K) : Res := loopL stdL Try.prog hints CC limLP F.law_ExpirePlays 1 [(0, v0), (3, v3), (4, v4), (5, v5), (6, v6), (8, v8), (9, v9)] H k
theorem r_law_ExpirePlays_0 (v0 : Value) (v3 : Value) (v4 : Value) (v5 : Value) (H : AHeap) (k : K) : l_law_ExpirePlays_0 v0 v3 v4 v5 H k = s_law_ExpirePlays_b0 guardK condL shareL Try.prog CC l_law_ExpirePlays_0 l_law_ExpirePlays_1 v0 v3 v4 v5 H (seqK (fun T H => l_law_ExpirePlays_0 (get T 0) (get T 3) (get T 4) (get T 5) H k) k) := ((loopL_next (by kernel_rfl) rfl H k).trans (s_law_ExpirePlays_b0_eq stdL CC limLP v0 v3 v4 v5 H _)).trans (by kernel_rfl)
theorem r_law_ExpirePlays_1 (v0 : Value) (v3 : Value) (v4 : Value) (v5 : Value) (v6 : Value) (v8 : Value) (v9 : Value) (H : AHeap) (k : K) : l_law_ExpirePlays_1 v0 v3 v4 v5 v6 v8 v9 H k = s_law_ExpirePlays_b1 guardK condL shareL Try.prog CC l_law_ExpirePlays_0 l_law_ExpirePlays_1 v0 v3 v4 v5 v6 v8 v9 H (seqK (fun T H => l_law_ExpirePlays_1 (get T 0) (get T 3) (get T 4) (get T 5) (get T 6) (get T 8) (get T 9) H k) k) := ((loopL_next (by kernel_rfl) rfl H k).trans (s_law_ExpirePlays_b1_eq stdL CC limLP v0 v3 v4 v5 v6 v8 v9 H _)).trans (by kernel_rfl)
theorem d_law_ExpirePlays (a0 : Value) (H : AHeap) {r : Value × AHeap} (h : s_law_ExpirePlays guardK condL shareL Try.prog CC l_law_ExpirePlays_0 l_law_ExpirePlays_1 a0 H (endK Try.prog [.tmp 2]) = some r) : CC F.law_ExpirePlays [a0] H = some (tidy H r) := D_body (by kernel_rfl) ((s_law_ExpirePlays_eq stdL CC limLP a0 H).trans (Eq.trans (show s_law_ExpirePlays stdL.b.g stdL.c stdL.s Try.prog CC (fun v0 v3 v4 v5 H k => loopL stdL Try.prog hints CC limLP F.law_ExpirePlays 0 [(0, v0), (3, v3), (4, v4), (5, v5)] H k) (fun v0 v3 v4 v5 v6 v8 v9 H k => loopL stdL Try.prog hints CC limLP F.law_ExpirePlays 1 [(0, v0), (3, v3), (4, v4), (5, v5), (6, v6), (8, v8), (9, v9)] H k) a0 H (endK Try.prog [.tmp 2]) = s_law_ExpirePlays guardK condL shareL Try.prog CC l_law_ExpirePlays_0 l_law_ExpirePlays_1 a0 H (endK Try.prog [.tmp 2]) by kernel_rfl) h))

end Go.Proofs.Ythjjkinpbpealaa
