/-
  11 texts in one (merge.py): Se Sf ShExpireMany DsExpireMany Ma ShExpireHolds DsExpireHolds Ha Hb Hc LawExpireHolds.
  Conditions: none. By an AI agent.
-/
import Derived.Test.YthjjkinpbpealaaLawExpireHoldsQ1
import Derived.Test.YthjjkinpbpealaaChecked
import Derived.KernelRfl
import Derived.Test.YthjjkinpbpealaaRows
import Derived.WalkKit
import Derived.ProofKit
import Derived.OpenShut
import Derived.ShutString
import Derived.ChangeOld
import Derived.Below
import Derived.SizedLaws
import Derived.ChangeArms
import Derived.Carry

/-
  Chapter 45: a store: what has ended, Waiting, Len, Sweep.
  Conditions: none. By an AI agent.
-/
set_option maxRecDepth 10000
set_option linter.unusedSimpArgs false
set_option linter.unusedVariables false
namespace Go.Proofs.Ythjjkinpbpealaa
open Go Eng
attribute [local congr] bareK_congr' bothK_congr' quietK_congr'

theorem EStr_cells : ∀ l : List ByteArray, EStr.cells l = l.map .string
  | [] => rfl
  | s :: l => by
    have : EStr.cells (s :: l) = .string s :: EStr.cells l := rfl
    rw [this, EStr_cells l]
    rfl

def conv (p : ByteArray × Nat) : List UInt8 × Int := (p.1.data.toList, (p.2 : Int))
def dueS (S : List En) (now : Nat) : List (ByteArray × Nat) := (S.filter fun x => decide (0 < x.e) && decide (x.e ≤ now)).map fun x => (x.key, x.e)
/-- The keys that have ended, by their ends. -/
def wS (S : List En) (now : Nat) : List ByteArray := (sortE ((dueS S now).map conv)).map fun k => ⟨k.1.toArray⟩

theorem wS_len (S : List En) (now : Nat) : (wS S now).length = (S.filter fun x => decide (0 < x.e) && decide (x.e ≤ now)).length := by
  unfold wS dueS
  rw [List.length_map, (sortE_perm _).length_eq, List.length_map, List.length_map]
theorem wS_mem {S : List En} {now : Nat} {k : ByteArray} : k ∈ wS S now ↔ ∃ x ∈ S, x.key = k ∧ 0 < x.e ∧ x.e ≤ now := by
  unfold wS dueS
  constructor
  · intro h
    obtain ⟨p, hp, rfl⟩ := List.mem_map.1 h
    have hp := (sortE_perm _).mem_iff.1 hp
    obtain ⟨q, hq, rfl⟩ := List.mem_map.1 hp
    obtain ⟨x, hx, rfl⟩ := List.mem_map.1 hq
    obtain ⟨h1, h2⟩ := List.mem_filter.1 hx
    simp only [Bool.and_eq_true, decide_eq_true_eq] at h2
    exact ⟨x, h1, by simp [conv], h2⟩
  · rintro ⟨x, hx, rfl, h1, h2⟩
    refine List.mem_map.2 ⟨conv (x.key, x.e), (sortE_perm _).mem_iff.2 (List.mem_map_of_mem (List.mem_map.2 ⟨x, List.mem_filter.2 ⟨hx, by simp [h1, h2]⟩, rfl⟩)), by simp [conv]⟩

theorem sortE_eq {a b : List (List UInt8 × Int)} (h : a.Perm b) : sortE a = sortE b := by
  refine List.Perm.eq_of_pairwise (le := fun x y => ¬ befB y x = true) (fun x y _ _ h1 h2 => ?_) (sortE_sorted a) (sortE_sorted b) (((sortE_perm a).trans h).trans (sortE_perm b).symm)
  rw [befB_iff] at h1 h2
  have e1 : ¬ y.2 < x.2 := fun e => h1 (.inl e)
  have e2 : ¬ x.2 < y.2 := fun e => h2 (.inl e)
  have e : x.2 = y.2 := by omega
  have l1 : ¬ y.1 < x.1 := fun k => h1 (.inr ⟨e.symm, k⟩)
  have l2 : ¬ x.1 < y.1 := fun k => h2 (.inr ⟨e, k⟩)
  exact Prod.ext (List.le_antisymm (List.not_lt.1 l1) (List.not_lt.1 l2)) e

theorem entS_ents : ∀ {E : Ec}, (∀ p ∈ E, p.1.size ≤ 1000 ∧ 0 < p.2 ∧ p.2 ≤ 4611686018427387904) → entS (entsOf E) = some (E.map conv)
  | [], _ => rfl
  | p :: E, h => by
    obtain ⟨h1, h2, h3⟩ := h p (by simp)
    have ih := entS_ents (E := E) fun q hq => h q (by simp [hq])
    show (if decide (p.1.size ≤ 1000) && (decide ((0 : Int) < (p.2 : Int)) && decide ((p.2 : Int) ≤ 4611686018427387904)) then (entS (entsOf E)).map ((p.1.data.toList, (p.2 : Int)) :: ·) else none) = _
    rw [if_pos (by simp; omega), ih]
    rfl

section
variable {H : AHeap} {c : Nat} {m : Option Nat} {E : Ec} {S : List En} {now : Nat}

theorem chk_size {k : ByteArray} (h : chk k [] = 0) : k.size ≤ 24 := by
  unfold chk at h
  split at h
  · cases h
  · split at h
    · cases h
    · rename_i h2
      have : ¬ 24 < (bl k).length := fun e => h2 (.inl e)
      have e : (bl k).length = k.size := by simp [bl]
      omega
theorem lkp_of_mem : ∀ {E : Ec}, (E.map (·.1)).Nodup → ∀ {p : ByteArray × Nat}, p ∈ E → lkp E p.1 = some p.2
  | q :: E, hn, p, hp => by
    rw [List.map_cons, List.nodup_cons] at hn
    rw [lkp]
    rcases List.mem_cons.1 hp with rfl | hp
    · rw [if_pos rfl]
    · rw [if_neg (fun e => hn.1 (by rw [← e]; exact List.mem_map_of_mem hp))]
      exact lkp_of_mem hn.2 hp
theorem end_mem {k : ByteArray} (h : endOf S k ≠ 0) : ∃ x ∈ S, x.key = k ∧ x.e = endOf S k := by
  rw [endOf_get] at h ⊢
  cases hg : getS S k with
  | none => rw [hg] at h; exact absurd rfl h
  | some x => obtain ⟨h1, h2⟩ := getS_key hg; exact ⟨x, h2, h1, rfl⟩
theorem StR.ent (r : StR H c m E S now) {p : ByteArray × Nat} (hp : p ∈ E) : ∃ x ∈ S, x.key = p.1 ∧ x.e = p.2 ∧ 0 < p.2 := by
  have h1 := lkp_of_mem r.nd hp
  have h2 := r.lk p.1
  rw [h1] at h2
  by_cases h : endOf S p.1 = 0
  · rw [if_pos h] at h2; cases h2
  · rw [if_neg h] at h2
    obtain ⟨x, hx, e1, e2⟩ := end_mem h
    have h2 : p.2 = endOf S p.1 := Option.some.inj h2
    exact ⟨x, hx, e1, by omega, by omega⟩
theorem StR.ents_ok (r : StR H c m E S now) : ∀ p ∈ E, p.1.size ≤ 1000 ∧ 0 < p.2 ∧ p.2 ≤ 4611686018427387904 := fun p hp => by
  obtain ⟨x, hx, e1, e2, e3⟩ := r.ent hp
  have h1 := r.ends x hx
  have h2 := chk_size (r.keys x hx)
  rw [e1] at h2
  exact ⟨by omega, e3, by omega⟩
theorem StR.due (r : StR H c m E S now) : ((E.map conv).filter fun k => decide (k.2 ≤ (now : Int))).Perm ((dueS S now).map conv) := by
  have e1 : (E.map conv).filter (fun k => decide (k.2 ≤ (now : Int))) = (E.filter fun p => decide (p.2 ≤ now)).map conv := by
    rw [List.filter_map]
    congr 1
    exact List.filter_congr fun p _ => by simp [conv]
  rw [e1]
  refine List.Perm.map _ ?_
  have nd1 : (E.filter fun p => decide (p.2 ≤ now)).Nodup := by
    have := r.nd
    rw [List.Nodup, List.pairwise_map] at this
    exact (List.Pairwise.filter _ (this.imp fun h e => h (by rw [e])))
  have nd2 : (dueS S now).Nodup := by
    unfold dueS
    rw [List.Nodup, List.pairwise_map]
    have hs := r.srt
    unfold Srt pl at hs
    rw [List.pairwise_map] at hs
    refine (hs.filter _).imp fun {a b} h e => ?_
    have h : cmpS a.key b.key < 0 := h
    have e : a.key = b.key := congrArg Prod.fst e
    rw [e, cmpS_self] at h
    exact absurd h (by decide)
  refine (List.perm_ext_iff_of_nodup nd1 nd2).2 fun p => ?_
  unfold dueS
  constructor
  · intro h
    obtain ⟨h1, h2⟩ := List.mem_filter.1 h
    obtain ⟨x, hx, e1, e2, e3⟩ := r.ent h1
    refine List.mem_map.2 ⟨x, List.mem_filter.2 ⟨hx, ?_⟩, by rw [e1, e2]⟩
    simp only [Bool.and_eq_true, decide_eq_true_eq]
    have := of_decide_eq_true h2
    omega
  · intro h
    obtain ⟨x, hx, rfl⟩ := List.mem_map.1 h
    obtain ⟨h1, h2⟩ := List.mem_filter.1 hx
    simp only [Bool.and_eq_true, decide_eq_true_eq] at h2
    have hg := getS_mem r.srt h1
    have he : endOf S x.key = x.e := by rw [endOf_get, hg]; rfl
    have hl := r.lk x.key
    rw [he, if_neg (by omega)] at hl
    exact List.mem_filter.2 ⟨lkp_mem hl, by simp [h2.2]⟩
theorem nodup_len : ∀ {a b : List ByteArray}, a.Nodup → (∀ x ∈ a, x ∈ b) → a.length ≤ b.length
  | [], _, _, _ => Nat.zero_le _
  | x :: a, b, hn, hs => by
    rw [List.nodup_cons] at hn
    have hx := hs x (by simp)
    have ih := nodup_len (a := a) (b := b.filter fun y => !decide (y = x)) hn.2 fun y hy => List.mem_filter.2 ⟨hs y (by simp [hy]), by
      have : ¬ y = x := fun e => hn.1 (by rw [← e]; exact hy)
      simp [this]⟩
    have h1 : (b.filter fun y => !decide (y = x)).length < b.length := List.length_filter_lt_length_iff_exists.2 ⟨x, hx, by simp⟩
    simp only [List.length_cons]
    omega
theorem StR.elen (r : StR H c m E S now) : E.length ≤ 20000 := by
  have h1 : (E.map (·.1)).length ≤ (S.map (·.key)).length := nodup_len r.nd fun k hk => by
    obtain ⟨p, hp, rfl⟩ := List.mem_map.1 hk
    obtain ⟨x, hx, e1, _⟩ := r.ent hp
    exact List.mem_map.2 ⟨x, hx, e1⟩
  have := r.len
  simp at h1
  omega

theorem q_waiting (r : StR H c m E S now) : ∃ v H', CC F.expire_Store_waiting [pt c] H = some (v, H') ∧ Own EStr H' T.string v (wS S now) ∧ (∀ b, blockOf v = some b → H.n ≤ b ∧ b < H'.n) ∧ Still H H' ∧ (wS S now = [] → v = .slice none 0 0 ∧ H' = H) := by
  have hp : prims1 F.expire_Store_waiting = some waitP := by kernel_rfl
  obtain ⟨v0, f0, _⟩ := r.md
  have f0 : H.f c = .cells [v0, .map m, .int .i64 (now : Int)] T.expire_Store true := f0
  have hw : wS S now = (sortE ((E.map conv).filter fun k => decide (k.2 ≤ (now : Int)))).map fun k => ⟨k.1.toArray⟩ := by
    unfold wS
    rw [sortE_eq r.due]
  have hlen : ((E.map conv).filter fun k => decide (k.2 ≤ (now : Int))).length = (wS S now).length := by rw [hw, List.length_map, (sortE_perm _).length_eq]
  cases hm : m with
  | none =>
    subst hm
    have hE : E = [] := r.mi
    have hw0 : wS S now = [] := by rw [hw, hE]; rfl
    refine ⟨.slice none 0 0, H, D_prim hp ?_, .inl ⟨hw0, rfl⟩, fun b h => (by cases h), Fr.refl H, fun _ => ⟨rfl, rfl⟩⟩
    unfold waitP
    simp only [f0, List.getElem?_cons_zero, List.getElem?_cons_succ, Nat.zero_add]
  | some mb =>
    subst hm
    obtain ⟨b1, b2, b3⟩ := r.mi
    have hes := entS_ents r.ents_ok
    have hel : (entsOf E).length ≤ 1000000 := by unfold entsOf; rw [List.length_map]; have := r.elen; omega
    by_cases he : ((E.map conv).filter fun k => decide (k.2 ≤ (now : Int))).isEmpty = true
    · have hw0 : wS S now = [] := List.length_eq_zero_iff.1 (by rw [← hlen, List.isEmpty_iff.1 he]; rfl)
      refine ⟨.slice none 0 0, H, D_prim hp ?_, .inl ⟨hw0, rfl⟩, fun b h => (by cases h), Fr.refl H, fun _ => ⟨rfl, rfl⟩⟩
      unfold waitP
      simp only [f0, List.getElem?_cons_zero, List.getElem?_cons_succ, Nat.zero_add, b1, hes]
      rw [if_pos hel, if_pos he]
    · have hne : wS S now ≠ [] := fun h => he (by rw [List.isEmpty_iff]; exact List.length_eq_zero_iff.1 (by rw [hlen, h]; rfl))
      obtain ⟨H1, hH1⟩ : ∃ H1, H.push (.cells (EStr.cells (wS S now)) 9 true) = H1 := ⟨_, rfl⟩
      have hcells : (sortE ((E.map conv).filter fun k => decide (k.2 ≤ (now : Int)))).map (fun k => Value.string ⟨k.1.toArray⟩) = EStr.cells (wS S now) := by
        rw [EStr_cells, hw, List.map_map]
        rfl
      have s1 : Still H H1 := by rw [← hH1]; exact (Fr.refl H).push _
      have n1 : H1.n = H.n + 1 := by rw [← hH1]; rfl
      refine ⟨.slice (some ⟨H.n, 0, none⟩) (wS S now).length (2 * (wS S now).length + 1), H1, D_prim hp ?_, ?_, fun b hb => (by cases hb; exact ⟨Nat.le_refl _, by show H.n < H1.n; omega⟩), s1, fun h => absurd h hne⟩
      · unfold waitP
        simp only [f0, List.getElem?_cons_zero, List.getElem?_cons_succ, Nat.zero_add, b1, hes]
        rw [if_pos hel, if_neg he, hcells, hlen, hH1]
      · refine .inr (.inr ⟨H.n, 0, (wS S now).length, EStr.cells (wS S now), rfl, Nat.le_refl _, by omega, by rw [← hH1]; exact push_f_eq rfl, by rw [EStr.cells_len, Nat.zero_add], ?_⟩)
        rw [List.drop_zero, List.take_of_length_le (by rw [EStr.cells_len]; exact Nat.le_refl _)]

theorem q_Waiting (r : StR H c m E S now) : CC F.expire_Store_Waiting [pt c] H = some (.int .i64 ((wS S now).length : Int), H) := by
  obtain ⟨v, H1, e, o, _, s1, _⟩ := q_waiting r
  have hl := o.rd.lenS
  refine pure_of (H' := H1) ?_ (d_expire_Store_Waiting _ H) rfl s1
  simp (disch := first | with_reducible rfl | assumption | omega | rfl | (simp only [go_sem]; first | done | omega)) only [go_sem, ↓reduceIte, reduceCtorEq, Nat.reduceEqDiff, Nat.reduceAdd, Nat.reduceSub, Nat.reduceMul, Nat.reduceDiv, Nat.reduceMod, Nat.reduceLeDiff, Nat.reduceLT, Nat.reduceBEq, Int.reduceEq, Int.reduceBEq, Int.reduceBNe, Int.reduceLT, Int.reduceLE, Int.reduceAdd, Int.reduceSub, Int.reduceNeg, Int.reduceToNat, Int.reducePow, Nat.reducePow, Int.reduceMul, Int.reduceDiv, ↓s_expire_Store_Waiting, ↓enterK_eq e, enterK_eq e, hl]
theorem wS_le (S : List En) (now : Nat) : (wS S now).length ≤ S.length := by
  rw [wS_len]
  exact List.length_filter_le _ _
theorem q_xLen (r : StR H c m E S now) : CC F.expire_Store_Len [pt c] H = some (.int .i64 ((S.length - (wS S now).length : Nat) : Int), H) := by
  have e1 := q_Len c (pl S) H r.md
  have e2 := q_Waiting r
  have h := wS_le S now
  have hlen := r.len
  have hpl : (pl S).length = S.length := by simp [pl]
  rw [hpl] at e1
  have e : ((S.length - (wS S now).length : Nat) : Int) = (S.length : Int) - ((wS S now).length : Int) := by omega
  rw [e]
  apply pure_of _ (d_expire_Store_Len _ H) rfl
  rotate_left 2
  · simp (disch := first | with_reducible rfl | assumption | omega | rfl | (simp only [go_sem]; first | done | omega)) only [go_sem, ↓reduceIte, reduceCtorEq, Nat.reduceEqDiff, Nat.reduceAdd, Nat.reduceSub, Nat.reduceMul, Nat.reduceDiv, Nat.reduceMod, Nat.reduceLeDiff, Nat.reduceLT, Nat.reduceBEq, Int.reduceEq, Int.reduceBEq, Int.reduceBNe, Int.reduceLT, Int.reduceLE, Int.reduceAdd, Int.reduceSub, Int.reduceNeg, Int.reduceToNat, Int.reducePow, Nat.reducePow, Int.reduceMul, Int.reduceDiv, ↓s_expire_Store_Len, ↓enterK_eq e1, enterK_eq e1, ↓enterK_eq e2, enterK_eq e2]
    rfl
  · (repeat (first | exact Fr.refl _ | refine Fr.push ?_ _ | refine Fr.set ?_ _ _ (by intro h; first | omega | (simp only [go_sem] at h; omega))))
end

/-! ### Sweep -/
def sweepS (S : List En) (ks : List ByteArray) : List En := ks.foldl delR S
theorem UpX.trans {H H1 H2 : AHeap} {c : Nat} (hc : ∀ b, OB H c b → b < H.n) (a : UpX H c H1) (b : UpX H1 c H2) : UpX H c H2 := by
  have n1 := a.fr.n
  refine ⟨a.fr.then b.fr fun x hx h => ?_, fun x h => ?_⟩
  · rcases a.ob x h with h | h
    · exact h
    · omega
  · rcases b.ob x h with h | h
    · exact a.ob x h
    · exact .inr (by omega)
theorem hi_blk {e : TypeId} {H : AHeap} {v v' : Value} {l : List ByteArray} (o : Own EStr H e v l) {i : Nat} (hi : i ≤ l.length) (h : slS e 1 v none (some (.int .i64 (i : Int))) none H = some v') : ∀ b, blockOf v' = some b → blockOf v = some b := by
  rcases o with ⟨rfl, rfl⟩ | ⟨rfl, ⟨b, o, s⟩, rfl, hs, hbb⟩ | ⟨b, o, c, xs, rfl, hl, hbn, hf, ho, hx⟩
  · simp only [List.length_nil, Nat.le_zero_eq] at hi
    subst hi
    have h0 : slS e 1 (.slice none 0 0) none (some (.int .i64 ((0 : Nat) : Int))) none H = some (.slice none 0 0) := rfl
    rw [h0] at h
    cases h
    exact fun b hb => hb
  · simp only at hs
    subst hs
    simp only [List.length_nil, Nat.le_zero_eq] at hi
    subst hi
    have h0 : slS e 1 (.slice (some ⟨b, o, none⟩) 0 0) none (some (.int .i64 ((0 : Nat) : Int))) none H = some (.slice (some ⟨b, o, none⟩) 0 0) := by simp [slS, lowOf, highOf, bnd]
    have h : slS e 1 (.slice (some ⟨b, o, none⟩) 0 0) none (some (.int .i64 ((0 : Nat) : Int))) none H = some v' := h
    rw [h0] at h
    cases h
    exact fun b hb => hb
  · have h0 := sl_hi (e := e) (o := o) (sz := 1) (n := l.length) (q := .i64) hf (Nat.le_trans hi hl)
    rw [h0] at h
    cases h
    exact fun b hb => hb

section
variable {H : AHeap} {c : Nat} {m : Option Nat} {E : Ec} {S : List En} {now : Nat}
theorem l_sweep {v : Value} {ks : List ByteArray} (hk : ∀ k ∈ ks, chk k [] = 0) (hkn : ks.length ≤ 4611686018427387904) : ∀ (r : List ByteArray) (i : Nat) (E : Ec) (S : List En) (H : AHeap), ks.drop i = r → i ≤ ks.length → Ok H → StR H c m E S now → Rd EStr H v ks → (∀ b, blockOf v = some b → b < H.n ∧ ¬ OB H c b) →
    ∃ E' H', (∀ K, l_expire_Store_Sweep_0 (pt c) v v (.int .i64 (ks.length : Int)) (.int .i64 (i : Int)) H (blkK [6] 1 K) = K .normal [(6, v)] H') ∧ StR H' c m E' (sweepS S r) now ∧ UpX H c H' ∧ Rd EStr H' v ks
  | [], i, E, S, H, hd, hi, ok, st, rd, hb => by
    have h : ks.length ≤ i := List.drop_eq_nil_iff.1 hd
    have hlt : ¬ (i : Int) < (ks.length : Int) := by omega
    refine ⟨E, H, fun K => ?_, st, UpX.refl H c, rd⟩
    rw [r_expire_Store_Sweep_0]
    simp (disch := first | with_reducible rfl | assumption | omega | rfl | (simp only [go_sem]; first | done | omega)) only [go_sem, ↓reduceIte, reduceCtorEq, Nat.reduceEqDiff, Nat.reduceAdd, Nat.reduceSub, Nat.reduceMul, Nat.reduceDiv, Nat.reduceMod, Nat.reduceLeDiff, Nat.reduceLT, Nat.reduceBEq, Int.reduceEq, Int.reduceBEq, Int.reduceBNe, Int.reduceLT, Int.reduceLE, Int.reduceAdd, Int.reduceSub, Int.reduceNeg, Int.reduceToNat, Int.reducePow, Nat.reducePow, Int.reduceMul, Int.reduceDiv, ↓s_expire_Store_Sweep_b0, hlt]
  | k :: r, i, E, S, H, hd, hi, ok, st, rd, hb => by
    have hlt0 : i < ks.length := by
      rcases Nat.lt_or_ge i ks.length with h | h
      · exact h
      · rw [List.drop_eq_nil_of_le h] at hd; cases hd
    have ha : ks[i] = k := by rw [List.drop_eq_getElem_cons hlt0] at hd; exact (List.cons.inj hd).1
    have hd' : ks.drop (i + 1) = r := by rw [List.drop_eq_getElem_cons hlt0] at hd; exact (List.cons.inj hd).2
    have hlt : (i : Int) < (ks.length : Int) := by omega
    obtain ⟨bb, o, ix, hbn, hcc, hbl⟩ := rd.ix (q := .i64) hlt0
    have ix : ixS 1 v (.int .i64 i) = some (.pointer (some ⟨bb, o, none⟩)) := ix
    have c0 : cellB (H.f bb) o = some (.string k) := by
      have := cutB_cell hcc (i := 0) (by decide)
      rw [ha] at this
      exact this
    obtain ⟨w, H1, v1, H2, e1, f1, l1, r2, u2⟩ := q_takeOut ok st k (hk k (by rw [← ha]; exact List.getElem_mem _))
    have ok2 : Ok H2 := u2.fr.ok ok
    have n2 := u2.fr.n
    have rd2 : Rd EStr H2 v ks := rd.keep u2.fr fun b hb' h => (hb b hb').2 h
    obtain ⟨E', H', g1, g2, g3, g4⟩ := l_sweep hk hkn r (i + 1) _ _ H2 hd' (by omega) ok2 r2 rd2 (fun b hb' => by
      obtain ⟨a1, a2⟩ := hb b hb'
      exact ⟨by omega, fun h => by
        rcases u2.ob b h with h | h
        · exact a2 h
        · omega⟩)
    refine ⟨E', H', fun K => ?_, g2, UpX.trans (fun b h => st.lt h) u2 g3, g4⟩
    have ih := g1 K
    rw [Int.natCast_add] at ih
    rw [r_expire_Store_Sweep_0]
    simp (disch := first | with_reducible rfl | assumption | omega | rfl | (simp only [go_sem]; first | done | omega)) only [go_sem, ↓reduceIte, reduceCtorEq, Nat.reduceEqDiff, Nat.reduceAdd, Nat.reduceSub, Nat.reduceMul, Nat.reduceDiv, Nat.reduceMod, Nat.reduceLeDiff, Nat.reduceLT, Nat.reduceBEq, Int.reduceEq, Int.reduceBEq, Int.reduceBNe, Int.reduceLT, Int.reduceLE, Int.reduceAdd, Int.reduceSub, Int.reduceNeg, Int.reduceToNat, Int.reducePow, Nat.reducePow, Int.reduceMul, Int.reduceDiv, ↓s_expire_Store_Sweep_b0, hlt, ix, c0, ↓enterK_eq e1, enterK_eq e1, f1, l1]
    exact ih

theorem q_xSweep (ok : Ok H) (r : StR H c m E S now) (n : Int) :
    ∃ v m' E' H', CC F.expire_Store_Sweep [pt c, .int .i64 n] H = some (.tuple #[v, .int .i64 (if n < 1 then 2 else 0)], H') ∧ Rd EStr H' v (if n < 1 then [] else (wS S now).take n.toNat) ∧ StR H' c m' E' (sweepS S (if n < 1 then [] else (wS S now).take n.toNat)) now ∧ UpX H c H' ∧
      (∀ b, blockOf v = some b → H.n ≤ b ∧ b < H'.n ∧ ¬ OB H' c b) := by
  by_cases hn : n < 1
  · rw [if_pos hn, if_pos hn]
    refine ⟨.slice none 0 0, m, E, H, ?_, .inl ⟨rfl, rfl⟩, r, UpX.refl H c, fun b h => (by cases h)⟩
    apply pure_of _ (d_expire_Store_Sweep _ _ H) rfl
    rotate_left 2
    · simp (disch := first | with_reducible rfl | assumption | omega | rfl | (simp only [go_sem]; first | done | omega)) only [go_sem, ↓reduceIte, reduceCtorEq, Nat.reduceEqDiff, Nat.reduceAdd, Nat.reduceSub, Nat.reduceMul, Nat.reduceDiv, Nat.reduceMod, Nat.reduceLeDiff, Nat.reduceLT, Nat.reduceBEq, Int.reduceEq, Int.reduceBEq, Int.reduceBNe, Int.reduceLT, Int.reduceLE, Int.reduceAdd, Int.reduceSub, Int.reduceNeg, Int.reduceToNat, Int.reducePow, Nat.reducePow, Int.reduceMul, Int.reduceDiv, ↓s_expire_Store_Sweep, hn]
      rfl
    · (repeat (first | exact Fr.refl _ | refine Fr.push ?_ _ | refine Fr.set ?_ _ _ (by intro h; first | omega | (simp only [go_sem] at h; omega))))
  rw [if_neg hn, if_neg hn]
  obtain ⟨N, rfl⟩ : ∃ N : Nat, n = (N : Int) := ⟨n.toNat, by omega⟩
  rw [Int.toNat_natCast]
  obtain ⟨v0, H1, e0, o0, hb0, s1, hnil⟩ := q_waiting r
  have hl := o0.rd.lenS
  have n1 := s1.n
  obtain ⟨I, hI⟩ : ∃ I, min N (wS S now).length = I := ⟨_, rfl⟩
  have hIl : I ≤ (wS S now).length := by omega
  have hmin : min (N : Int) ((wS S now).length : Int) = (I : Int) := by omega
  obtain ⟨v1, hs1, rd1⟩ := o0.hi (sz := 1) rfl hIl (q := .i64)
  have hs1 : slS T.string 1 v0 none (some (.int .i64 (I : Int))) none H1 = some v1 := hs1
  have hbl := hi_blk o0 hIl hs1
  have htake : (wS S now).take I = (wS S now).take N := by
    rcases Nat.le_total N (wS S now).length with h | h
    · rw [show I = N by omega]
    · rw [show I = (wS S now).length by omega, List.take_length, List.take_of_length_le h]
  rw [htake] at rd1
  have hl1 := rd1.lenS
  have hkc : ∀ k ∈ (wS S now).take N, chk k [] = 0 := fun k hk => by
    obtain ⟨x, hx, rfl, _⟩ := wS_mem.1 (List.mem_of_mem_take hk)
    exact r.keys x hx
  have hwl := wS_le S now
  have hlen := r.len
  have hcl : c < H.n := r.lt (.inl rfl)
  have hob1 : ∀ b, OB H1 c b ↔ OB H c b := fun b => ob_still hcl s1 (fun h => h)
  have r1 := r.still s1
  have htl : ((wS S now).take N).length ≤ (wS S now).length := by rw [List.length_take]; omega
  obtain ⟨E', H', g1, g2, g3, g4⟩ := l_sweep (v := v1) hkc (by omega) ((wS S now).take N) 0 E S H1 rfl (Nat.zero_le _) (s1.ok ok) r1 rd1 (fun b hb => by
    have := hb0 b (hbl b hb)
    exact ⟨this.2, fun h => by have := r.lt ((hob1 b).1 h); omega⟩)
  have u : UpX H c H' := ⟨s1.still.then g3.fr fun b _ h => (hob1 b).1 h, fun b h => by
    rcases g3.ob b h with h | h
    · exact .inl ((hob1 b).1 h)
    · exact .inr (by omega)⟩
  have g1 : ∀ K, l_expire_Store_Sweep_0 (pt c) v1 v1 (.int .i64 (((wS S now).take N).length : Int)) (.int .i64 0) H1 (blkK [6] 1 K) = K .normal [(6, v1)] H' := g1
  have run : s_expire_Store_Sweep guardK condL shareL Try.prog CC l_expire_Store_Sweep_0 (pt c) (.int .i64 (N : Int)) H (endK Try.prog [.tmp 4, .tmp 5]) = some (.tuple #[v1, .int .i64 0], H') := by
    simp (disch := first | with_reducible rfl | assumption | omega | rfl | (simp only [go_sem]; first | done | omega)) only [go_sem, ↓reduceIte, reduceCtorEq, Nat.reduceEqDiff, Nat.reduceAdd, Nat.reduceSub, Nat.reduceMul, Nat.reduceDiv, Nat.reduceMod, Nat.reduceLeDiff, Nat.reduceLT, Nat.reduceBEq, Int.reduceEq, Int.reduceBEq, Int.reduceBNe, Int.reduceLT, Int.reduceLE, Int.reduceAdd, Int.reduceSub, Int.reduceNeg, Int.reduceToNat, Int.reducePow, Nat.reducePow, Int.reduceMul, Int.reduceDiv, ↓s_expire_Store_Sweep, hn, ↓enterK_eq e0, enterK_eq e0, hl, hmin, hs1, hl1, g1]
  have hbk : ∀ b, blockOf v1 = some b → H.n ≤ b ∧ b < H'.n ∧ ¬ OB H' c b := fun b hb => by
    have h := hb0 b (hbl b hb)
    have := g3.fr.n
    exact ⟨h.1, by omega, fun hh => by
      rcases g3.ob b hh with hh | hh
      · have := r.lt ((hob1 b).1 hh); omega
      · omega⟩
  by_cases hnone : (wS S now).take N = []
  · -- nothing has ended: the call is forgotten
    have hw0 : wS S now = [] := by
      have h := congrArg List.length hnone
      rw [List.length_take] at h
      have h : min N (wS S now).length = 0 := h
      exact List.length_eq_zero_iff.1 (by omega)
    obtain ⟨hv0, _⟩ := hnil hw0
    subst hv0
    have hI0 : I = 0 := by rw [hw0] at hI; simpa using hI.symm
    have hv1 : v1 = .slice none 0 0 := by
      rw [hI0] at hs1
      have h0 : slS T.string 1 (.slice none 0 0) none (some (.int .i64 ((0 : Nat) : Int))) none H1 = some (.slice none 0 0) := rfl
      rw [h0] at hs1
      cases hs1
      rfl
    subst hv1
    obtain ⟨m2, E2, H3, ht, r3, u3⟩ := tidyX (v := .tuple #[.slice none 0 0, .int .i64 0]) ok r g2 u
    exact ⟨.slice none 0 0, m2, E2, H3, (d_expire_Store_Sweep _ _ H run).trans (congrArg some ht), .inl ⟨hnone, rfl⟩, r3, u3, fun b h => (by cases h)⟩
  · have hv1 : ∃ b o n code, v1 = .slice (some ⟨b, o, none⟩) n code := by
      rcases rd1 with ⟨h, _⟩ | ⟨h, _⟩ | ⟨b, o, code, h, _⟩
      · exact absurd h hnone
      · exact absurd h hnone
      · exact ⟨_, _, _, _, h⟩
    obtain ⟨b, o, nn, code, rfl⟩ := hv1
    exact ⟨_, m, E', H', (d_expire_Store_Sweep _ _ H run).trans (congrArg some (tidy_mem rfl)), g4, g2, u, hbk⟩
end

end Go.Proofs.Ythjjkinpbpealaa

/-
  Chapter 45: a store: the keys that are alive.
  Conditions: none. By an AI agent.
-/
set_option maxRecDepth 10000
set_option linter.unusedSimpArgs false
set_option linter.unusedVariables false
namespace Go.Proofs.Ythjjkinpbpealaa
open Go Eng
attribute [local congr] bareK_congr' bothK_congr' quietK_congr'

section
variable {H : AHeap} {c : Nat} {m : Option Nat} {E : Ec} {S : List En} {now : Nat}

def pB (S : List En) (now : Nat) (a : Pr) : Bool := endB S now a.key
abbrev clo (bx : Nat) : Value := .func (.func F.expire_Store_Alive_1) #[] #[.pointer (some ⟨bx, 0, none⟩)]

theorem q_alive1 (ok : Ok H) (r : StR H c m E S now) {bx : Nat} (hx : H.f bx = .cells [pt c] T.p_expire_Store true) (hb : bx < H.n) (a : Pr) : CC F.expire_Store_Alive_1 [.agg #[.string a.key, .string a.value], pt bx] H = some (.bool (pB S now a), H) := by
  obtain ⟨H1, hH1⟩ : ∃ H1, H.push (.cells [.string a.key, .string a.value] T.api_Pair true) = H1 := ⟨_, rfl⟩
  have s1 : Still H H1 := by rw [← hH1]; exact (Fr.refl H).push _
  have f1 : H1.f H.n = .cells [.string a.key, .string a.value] T.api_Pair true := by rw [← hH1]; exact push_f_eq rfl
  have fx : H1.f bx = .cells [pt c] T.p_expire_Store true := by rw [s1.f hb (fun h => h)]; exact hx
  have e := q_ended (r.still s1) a.key
  unfold pB
  refine pure_of (H' := H1) ?_ (d_expire_Store_Alive_1 _ _ H) rfl s1
  simp (disch := first | with_reducible rfl | assumption | omega | rfl | (simp only [go_sem]; first | done | omega)) only [go_sem, ↓reduceIte, reduceCtorEq, Nat.reduceEqDiff, Nat.reduceAdd, Nat.reduceSub, Nat.reduceMul, Nat.reduceDiv, Nat.reduceMod, Nat.reduceLeDiff, Nat.reduceLT, Nat.reduceBEq, Int.reduceEq, Int.reduceBEq, Int.reduceBNe, Int.reduceLT, Int.reduceLE, Int.reduceAdd, Int.reduceSub, Int.reduceNeg, Int.reduceToNat, Int.reducePow, Nat.reducePow, Int.reduceMul, Int.reduceDiv, ↓s_expire_Store_Alive_1, hH1, fx, f1, ↓enterK_eq e, enterK_eq e]

def idxP (p : Pr → Bool) : List Pr → Nat → Int
  | [], _ => -1
  | a :: l, i => if p a then (i : Int) else idxP p l (i + 1)
theorem drop_pr {l m : List Pr} {a : Pr} {i : Nat} (h : l.drop i = a :: m) : ∃ hi : i < l.length, l[i] = a ∧ l.drop (i + 1) = m := by
  have hi : i < l.length := by
    by_cases hi : i < l.length
    · exact hi
    · rw [List.drop_eq_nil_of_le (by omega)] at h; cases h
  rw [List.drop_eq_getElem_cons hi] at h
  cases h
  exact ⟨hi, rfl, rfl⟩
theorem l_indexP (ok : Ok H) (r : StR H c m E S now) {bx : Nat} (hx : H.f bx = .cells [pt c] T.p_expire_Store true) (hb : bx < H.n) {v : Value} {l : List Pr} (rd : Rd EPr H v l) (hl : l.length ≤ 20000) (K : K) : ∀ (q : List Pr) (i : Nat), l.drop i = q → i ≤ l.length →
    l_slices_IndexFunc_Pair_0 v (clo bx) (.int .i64 (l.length : Int)) (.int .i64 (i : Int)) H (blkK [] 0 (seqK (fun _ h2 => K .ret [(4, .int .i64 (-1))] h2) K)) = K .ret [(4, .int .i64 (idxP (pB S now) q i))] H
  | [], i, hd, hi => by
    have h : l.length ≤ i := List.drop_eq_nil_iff.1 hd
    have hlt : ¬ (i : Int) < (l.length : Int) := by omega
    rw [r_slices_IndexFunc_Pair_0]
    simp (disch := first | with_reducible rfl | assumption | omega | rfl | (simp only [go_sem]; first | done | omega)) only [go_sem, ↓reduceIte, reduceCtorEq, Nat.reduceEqDiff, Nat.reduceAdd, Nat.reduceSub, Nat.reduceMul, Nat.reduceDiv, Nat.reduceMod, Nat.reduceLeDiff, Nat.reduceLT, Nat.reduceBEq, Int.reduceEq, Int.reduceBEq, Int.reduceBNe, Int.reduceLT, Int.reduceLE, Int.reduceAdd, Int.reduceSub, Int.reduceNeg, Int.reduceToNat, Int.reducePow, Nat.reducePow, Int.reduceMul, Int.reduceDiv, ↓s_slices_IndexFunc_Pair_b0, hlt, idxP]
  | a :: q, i, hd, hi => by
    obtain ⟨h, ha, hd'⟩ := drop_pr hd
    have hlt : (i : Int) < (l.length : Int) := by omega
    obtain ⟨bb, o, ix, hbn, hcc, hbl⟩ := rd.ix (q := .i64) h
    have ix : ixS 2 v (.int .i64 i) = some (.pointer (some ⟨bb, o, none⟩)) := ix
    rw [ha] at hcc
    have hcc : cutB (H.f bb) o 2 = some [.string a.key, .string a.value] := hcc
    have e := q_alive1 ok r hx hb a
    rw [r_slices_IndexFunc_Pair_0, idxP]
    cases hp : pB S now a with
    | true =>
      rw [hp] at e
      rw [if_pos rfl]
      simp (disch := first | with_reducible rfl | assumption | omega | rfl | (simp only [go_sem]; first | done | omega)) only [go_sem, ↓reduceIte, reduceCtorEq, Nat.reduceEqDiff, Nat.reduceAdd, Nat.reduceSub, Nat.reduceMul, Nat.reduceDiv, Nat.reduceMod, Nat.reduceLeDiff, Nat.reduceLT, Nat.reduceBEq, Int.reduceEq, Int.reduceBEq, Int.reduceBNe, Int.reduceLT, Int.reduceLE, Int.reduceAdd, Int.reduceSub, Int.reduceNeg, Int.reduceToNat, Int.reducePow, Nat.reducePow, Int.reduceMul, Int.reduceDiv, ↓s_slices_IndexFunc_Pair_b0, hlt, ix, hcc, c_expire_Store_Alive_1, ↓enterK_eq e, enterK_eq e]
    | false =>
      rw [hp] at e
      rw [if_neg (by decide)]
      have ih := l_indexP ok r hx hb rd hl K q (i + 1) hd' (by omega)
      rw [Int.natCast_add] at ih
      simp (disch := first | with_reducible rfl | assumption | omega | rfl | (simp only [go_sem]; first | done | omega)) only [go_sem, ↓reduceIte, reduceCtorEq, Nat.reduceEqDiff, Nat.reduceAdd, Nat.reduceSub, Nat.reduceMul, Nat.reduceDiv, Nat.reduceMod, Nat.reduceLeDiff, Nat.reduceLT, Nat.reduceBEq, Int.reduceEq, Int.reduceBEq, Int.reduceBNe, Int.reduceLT, Int.reduceLE, Int.reduceAdd, Int.reduceSub, Int.reduceNeg, Int.reduceToNat, Int.reducePow, Nat.reducePow, Int.reduceMul, Int.reduceDiv, ↓s_slices_IndexFunc_Pair_b0, hlt, ix, hcc, c_expire_Store_Alive_1, ↓enterK_eq e, enterK_eq e]
      exact ih
theorem q_indexP (ok : Ok H) (r : StR H c m E S now) {bx : Nat} (hx : H.f bx = .cells [pt c] T.p_expire_Store true) (hb : bx < H.n) {v : Value} {l : List Pr} (rd : Rd EPr H v l) (hl : l.length ≤ 20000) : CC F.slices_IndexFunc_Pair [v, clo bx] H = some (.int .i64 (idxP (pB S now) l 0), H) := by
  have hloop := fun K => l_indexP ok r hx hb rd hl K l 0 rfl (Nat.zero_le _)
  have hloop : l_slices_IndexFunc_Pair_0 v (clo bx) (.int .i64 (l.length : Int)) (.int .i64 0) H (blkK [] 0 (seqK (fun _ h2 => some (.int .i64 (-1), h2)) (endK Try.prog [.tmp 4]))) = some (.int .i64 (idxP (pB S now) l 0), H) := hloop (endK Try.prog [.tmp 4])
  have hlen := rd.lenS
  apply pure_of _ (d_slices_IndexFunc_Pair _ _ H) rfl
  rotate_left 2
  · simp (disch := first | with_reducible rfl | assumption | omega | rfl | (simp only [go_sem]; first | done | omega)) only [go_sem, ↓reduceIte, reduceCtorEq, Nat.reduceEqDiff, Nat.reduceAdd, Nat.reduceSub, Nat.reduceMul, Nat.reduceDiv, Nat.reduceMod, Nat.reduceLeDiff, Nat.reduceLT, Nat.reduceBEq, Int.reduceEq, Int.reduceBEq, Int.reduceBNe, Int.reduceLT, Int.reduceLE, Int.reduceAdd, Int.reduceSub, Int.reduceNeg, Int.reduceToNat, Int.reducePow, Nat.reducePow, Int.reduceMul, Int.reduceDiv, ↓s_slices_IndexFunc_Pair, hlen]
    exact hloop
  · (repeat (first | exact Fr.refl _ | refine Fr.push ?_ _ | refine Fr.set ?_ _ _ (by intro h; first | omega | (simp only [go_sem] at h; omega))))
theorem idxP_spec (p : Pr → Bool) : ∀ (l : List Pr) (i : Nat), (idxP p l i = -1 ∧ l.filter (fun a => !p a) = l) ∨ ∃ j, idxP p l i = ((i + j : Nat) : Int) ∧ j < l.length ∧ (l.take (j + 1)).filter (fun a => !p a) = l.take j
  | [], i => .inl ⟨rfl, rfl⟩
  | a :: l, i => by
    rw [idxP]
    cases hp : p a with
    | true => exact .inr ⟨0, by simp, by simp, by simp [hp]⟩
    | false =>
      rw [if_neg (by decide)]
      rcases idxP_spec p l (i + 1) with ⟨h1, h2⟩ | ⟨j, h1, h2, h3⟩
      · exact .inl ⟨h1, by rw [List.filter_cons, hp]; simp [h2]⟩
      · refine .inr ⟨j + 1, by rw [h1]; congr 1; omega, by simp; omega, ?_⟩
        rw [List.take_succ_cons, List.filter_cons, hp, List.take_succ_cons, ← h3]
        simp

theorem l_delP {bx : Nat} {v : Value} {l : List Pr} (hl : l.length ≤ 20000) : ∀ (q : List Pr) (i j : Nat) (cur : List Pr) (H : AHeap), l.drop j = q → j ≤ l.length → i ≤ j → Ok H → StR H c m E S now → H.f bx = .cells [pt c] T.p_expire_Store true → bx < H.n →
    Own EPr H T.api_Pair v cur → cur.length = l.length → cur.take i = (l.take j).filter (fun a => !pB S now a) → cur.drop j = l.drop j → (∀ b, blockOf v = some b → b < H.n ∧ b ≠ bx ∧ ¬ OB H c b) →
    ∃ (i' : Nat) (cur' : List Pr) (H' : AHeap), (∀ K, l_slices_DeleteFunc_Pair_0 v (clo bx) (.int .i64 (i : Int)) (.int .i64 (j : Int)) H (blkK [0, 5] 0 K) = K .normal [(0, v), (5, .int .i64 (i' : Int))] H') ∧ Own EPr H' T.api_Pair v cur' ∧ cur'.length = l.length ∧ i' ≤ l.length ∧ i' ≤ i + q.length ∧
      cur'.take i' = l.filter (fun a => !pB S now a) ∧ Fr (OnlyOf v) H H'
  | [], i, j, cur, H, hd, hj, hij, ok, r, hx, hb, ow, hcl, h1, h2, hv => by
    have h : l.length ≤ j := List.drop_eq_nil_iff.1 hd
    have hlt : ¬ (j : Int) < (l.length : Int) := by omega
    have hlen := ow.rd.lenS
    rw [hcl] at hlen
    refine ⟨i, cur, H, fun K => ?_, ow, hcl, by omega, by simp, ?_, Fr.refl H⟩
    · rw [r_slices_DeleteFunc_Pair_0]
      simp (disch := first | with_reducible rfl | assumption | omega | rfl | (simp only [go_sem]; first | done | omega)) only [go_sem, ↓reduceIte, reduceCtorEq, Nat.reduceEqDiff, Nat.reduceAdd, Nat.reduceSub, Nat.reduceMul, Nat.reduceDiv, Nat.reduceMod, Nat.reduceLeDiff, Nat.reduceLT, Nat.reduceBEq, Int.reduceEq, Int.reduceBEq, Int.reduceBNe, Int.reduceLT, Int.reduceLE, Int.reduceAdd, Int.reduceSub, Int.reduceNeg, Int.reduceToNat, Int.reducePow, Nat.reducePow, Int.reduceMul, Int.reduceDiv, ↓s_slices_DeleteFunc_Pair_b0, hlen, hlt]
    · rw [h1, List.take_of_length_le h]
  | a :: q, i, j, cur, H, hd, hj, hij, ok, r, hx, hb, ow, hcl, h1, h2, hv => by
    obtain ⟨h, ha, hd'⟩ := drop_pr hd
    have hlt : (j : Int) < (l.length : Int) := by omega
    have hlen := ow.rd.lenS
    rw [hcl] at hlen
    have hjc : j < cur.length := by omega
    obtain ⟨bb, o, ix, hbn, hcc, hbl⟩ := ow.rd.ix (q := .i64) hjc
    have ix : ixS 2 v (.int .i64 j) = some (.pointer (some ⟨bb, o, none⟩)) := ix
    have hca : cur[j] = a := by
      have h0 : cur[j]? = l[j]? := by
        have := congrArg (fun z => z[0]?) h2
        simpa using this
      rw [List.getElem?_eq_getElem hjc, List.getElem?_eq_getElem h] at h0
      exact (Option.some.inj h0).trans ha
    rw [hca] at hcc
    have hcc : cutB (H.f bb) o 2 = some [.string a.key, .string a.value] := hcc
    obtain ⟨H1, hH1⟩ : ∃ H1, H.push (.cells [.string (mk []), .string (mk [])] T.api_Pair true) = H1 := ⟨_, rfl⟩
    obtain ⟨H2, hH2⟩ : ∃ H2, H1.set H.n (.cells [.string a.key, .string a.value] T.api_Pair true) = H2 := ⟨_, rfl⟩
    have f1 : H1.f H.n = .cells [.string (mk []), .string (mk [])] T.api_Pair true := by rw [← hH1]; exact push_f_eq rfl
    have f2 : H2.f H.n = .cells [.string a.key, .string a.value] T.api_Pair true := by rw [← hH2]; exact set_f_eq
    have n1 : H1.n = H.n + 1 := by rw [← hH1]; rfl
    have n2 : H2.n = H.n + 1 := by rw [← hH2]; exact n1
    have s2 : Still H H2 := by rw [← hH2, ← hH1]; exact ((Fr.refl H).push _).set _ _ fun h => absurd h (Nat.lt_irrefl _)
    have r2 := r.still s2
    have ok2 : Ok H2 := s2.ok ok
    have hx2 : H2.f bx = .cells [pt c] T.p_expire_Store true := by rw [s2.f hb (fun h => h)]; exact hx
    have ow2 := ow.still s2
    have e := q_alive1 ok2 r2 hx2 (by omega) a
    have hcH : c < H.n := r.lt (.inl rfl)
    have hv2 : ∀ b, blockOf v = some b → b < H2.n ∧ b ≠ bx ∧ ¬ OB H2 c b := fun b hb' => by
      obtain ⟨a1, a2, a3⟩ := hv b hb'
      exact ⟨by omega, a2, fun h => a3 ((ob_still hcH s2 (fun h => h)).1 h)⟩
    have htk : l.take (j + 1) = l.take j ++ [a] := by rw [List.take_succ_eq_append_getElem h, ha]
    cases hp : pB S now a with
    | true =>
      rw [hp] at e
      have h1' : cur.take i = (l.take (j + 1)).filter (fun a => !pB S now a) := by rw [htk, List.filter_append, h1]; simp [hp]
      have h2' : cur.drop (j + 1) = l.drop (j + 1) := by rw [← List.drop_drop, ← List.drop_drop, h2]
      obtain ⟨i', cur', H', g1, g2, g3, g4, g5, g6, g7⟩ := l_delP hl q i (j + 1) cur H2 hd' (by omega) (by omega) ok2 r2 hx2 (by omega) ow2 hcl h1' h2' hv2
      refine ⟨i', cur', H', fun K => ?_, g2, g3, g4, by simp; omega, g6, s2.still.trans g7⟩
      have ih := g1 K
      rw [Int.natCast_add] at ih
      rw [r_slices_DeleteFunc_Pair_0]
      simp (disch := first | with_reducible rfl | assumption | omega | rfl | (simp only [go_sem]; first | done | omega)) only [go_sem, ↓reduceIte, reduceCtorEq, Nat.reduceEqDiff, Nat.reduceAdd, Nat.reduceSub, Nat.reduceMul, Nat.reduceDiv, Nat.reduceMod, Nat.reduceLeDiff, Nat.reduceLT, Nat.reduceBEq, Int.reduceEq, Int.reduceBEq, Int.reduceBNe, Int.reduceLT, Int.reduceLE, Int.reduceAdd, Int.reduceSub, Int.reduceNeg, Int.reduceToNat, Int.reducePow, Nat.reducePow, Int.reduceMul, Int.reduceDiv, ↓s_slices_DeleteFunc_Pair_b0, hlen, hlt, ix, hcc, hH1, f1, hH2, f2, c_expire_Store_Alive_1, ↓enterK_eq e, enterK_eq e, Bool.not_true]
      exact ih
    | false =>
      rw [hp] at e
      have hic : i < cur.length := by omega
      obtain ⟨b3, o3, H3, ix3, hw3, ow3, hbv3, hb3, hn3, fr3, hver3⟩ := Own.write ow2 hic a
      obtain ⟨a1, a2, a3⟩ := hv2 b3 hbv3
      have r3 : StR H3 c m E S now := r2.keep fr3 fun b _ h hh => a3 (by rw [← h]; exact hh)
      have ok3 : Ok H3 := fr3.ok ok2
      have hx3 : H3.f bx = .cells [pt c] T.p_expire_Store true := by rw [fr3.f (by omega) (fun h => a2 h.symm)]; exact hx2
      have h1' : (cur.set i a).take (i + 1) = (l.take (j + 1)).filter (fun a => !pB S now a) := by
        rw [htk, List.filter_append, ← h1, List.take_succ_eq_append_getElem (by simpa using hic), List.take_set_of_le (Nat.le_refl i)]
        simp [hp]
      have h2' : (cur.set i a).drop (j + 1) = l.drop (j + 1) := by
        rw [List.drop_set_of_lt (by omega), ← List.drop_drop, ← List.drop_drop, h2]
      have hv3 : ∀ b, blockOf v = some b → b < H3.n ∧ b ≠ bx ∧ ¬ OB H3 c b := fun b hb' => by
        obtain ⟨q1, q2, q3⟩ := hv2 b hb'
        have hcb : ¬ c = b3 := fun h => a3 (h ▸ .inl rfl)
        exact ⟨by omega, q2, fun h => q3 ((ob_still (by omega) fr3 hcb).1 h)⟩
      obtain ⟨i', cur', H', g1, g2, g3, g4, g5, g6, g7⟩ := l_delP hl q (i + 1) (j + 1) (cur.set i a) H3 hd' (by omega) (by omega) ok3 r3 hx3 (by omega) ow3 (by rw [List.length_set]; exact hcl) h1' h2' hv3
      have frv : Fr (OnlyOf v) H2 H3 := fr3.mono fun x _ h => by unfold OnlyOf; rw [h]; exact hbv3
      refine ⟨i', cur', H', fun K => ?_, g2, g3, g4, by simp; omega, g6, s2.still.trans (frv.trans g7)⟩
      have ih := g1 K
      rw [Int.natCast_add, Int.natCast_add] at ih
      rw [r_slices_DeleteFunc_Pair_0]
      simp (disch := first | with_reducible rfl | assumption | omega | rfl | (simp only [go_sem]; first | done | omega)) only [go_sem, ↓reduceIte, reduceCtorEq, Nat.reduceEqDiff, Nat.reduceAdd, Nat.reduceSub, Nat.reduceMul, Nat.reduceDiv, Nat.reduceMod, Nat.reduceLeDiff, Nat.reduceLT, Nat.reduceBEq, Int.reduceEq, Int.reduceBEq, Int.reduceBNe, Int.reduceLT, Int.reduceLE, Int.reduceAdd, Int.reduceSub, Int.reduceNeg, Int.reduceToNat, Int.reducePow, Nat.reducePow, Int.reduceMul, Int.reduceDiv, ↓s_slices_DeleteFunc_Pair_b0, hlen, hlt, ix, hcc, hH1, f1, hH2, f2, c_expire_Store_Alive_1, ↓enterK_eq e, enterK_eq e, Bool.not_false, ix3, hw3]
      exact ih

theorem clearP {b o n c : Nat} {H : AHeap} (hn : n ≠ 0) : xclear Try.prog [T.sl_api_Pair] (.slice (some ⟨b, o, none⟩) n c) H = (setB H b (wrL (H.f b) o (zeros [.string (mk []), .string (mk [])] n))).map fun H' => (.tuple #[], H') := by
  have h : Try.prog.underlying T.sl_api_Pair = some (.slice T.api_Pair) := Try.underlying24
  have hz : zrow Try.prog T.api_Pair = some [.string (mk []), .string (mk [])] := by kernel_rfl
  unfold xclear
  simp only [h, hn, if_false, hz, Option.bind_some, stL_b]
theorem zeros_len (n : Nat) : (zeros [.string (mk []), .string (mk [])] n).length = n * 2 := by
  induction n with
  | zero => rfl
  | succ n ih => simp only [zeros] at ih ⊢; simp [ih]; omega
theorem zeros_one (n : Nat) : (zeros [.string (mk []), .string (mk [])] n).all Eng.one = true := by
  induction n with
  | zero => rfl
  | succ n ih => simp only [zeros] at ih ⊢; simp [ih, Eng.one]

/-- The pairs that are alive. -/
def aliveS (S : List En) (now : Nat) : List Pr := (pl S).filter fun a => !pB S now a

theorem q_xAlive (ok : Ok H) (r : StR H c m E S now) : ∃ v H', CC F.expire_Store_Alive [pt c] H = some (v, H') ∧ Own EPr H' T.api_Pair v (aliveS S now) ∧ Still H H' ∧ ∀ b, blockOf v = some b → H.n ≤ b ∧ b < H'.n := by
  have hcH : c < H.n := r.lt (.inl rfl)
  have hlen := r.len
  have hpl : (pl S).length ≤ 20000 := by simpa [pl] using hlen
  obtain ⟨H1, hH1⟩ : ∃ H1, H.push (.cells [pt c] T.p_expire_Store true) = H1 := ⟨_, rfl⟩
  have s1 : Still H H1 := by rw [← hH1]; exact (Fr.refl H).push _
  have n1 : H1.n = H.n + 1 := by rw [← hH1]; rfl
  have fx1 : H1.f H.n = .cells [pt c] T.p_expire_Store true := by rw [← hH1]; exact push_f_eq rfl
  have r1 := r.still s1
  obtain ⟨v, H2, e2, ow, s2, new2⟩ := q_Pairs c (pl S) H1 r1.md (by omega)
  have n2 := s2.n
  have r2 := r1.still s2
  have ok2 : Ok H2 := s2.ok (s1.ok ok)
  have fx2 : H2.f H.n = .cells [pt c] T.p_expire_Store true := by rw [s2.f (by omega) (fun h => h)]; exact fx1
  have e3 := q_indexP ok2 r2 fx2 (by omega) ow.rd hpl
  have s12 : Still H H2 := s1.then s2 fun _ _ h => h
  have hvb : ∀ b, blockOf v = some b → H1.n ≤ b ∧ b < H2.n := fun b hb => ⟨new2 b hb, ow.blk hb⟩
  have fin : ∀ {v' : Value} {H' : AHeap}, Own EPr H' T.api_Pair v' (aliveS S now) → Still H H' → (∀ b, blockOf v' = some b → H.n ≤ b) → s_expire_Store_Alive guardK condL shareL Try.prog CC (pt c) H (endK Try.prog [.tmp 2]) = some (v', H') →
      ∃ v H', CC F.expire_Store_Alive [pt c] H = some (v, H') ∧ Own EPr H' T.api_Pair v (aliveS S now) ∧ Still H H' ∧ ∀ b, blockOf v = some b → H.n ≤ b ∧ b < H'.n := fun {v' H'} o s nb run => by
    obtain ⟨H'', h1, h2, h3, h4⟩ := own_tidied o s nb (d_expire_Store_Alive _ H run)
    exact ⟨v', H'', h1, h2, h3, fun b hb => ⟨nb b hb, h2.blk hb⟩⟩
  rcases idxP_spec (pB S now) (pl S) 0 with ⟨hi, hf⟩ | ⟨j, hi, hj, hf⟩
  · rw [hi] at e3
    have e4 : CC F.slices_DeleteFunc_Pair [v, clo H.n] H2 = some (v, H2) := by
      have run : s_slices_DeleteFunc_Pair guardK condL shareL Try.prog CC l_slices_DeleteFunc_Pair_0 v (clo H.n) H2 (endK Try.prog [.tmp 4]) = some (v, H2) := by
        simp (disch := first | with_reducible rfl | assumption | omega | rfl | (simp only [go_sem]; first | done | omega)) only [go_sem, ↓reduceIte, reduceCtorEq, Nat.reduceEqDiff, Nat.reduceAdd, Nat.reduceSub, Nat.reduceMul, Nat.reduceDiv, Nat.reduceMod, Nat.reduceLeDiff, Nat.reduceLT, Nat.reduceBEq, Int.reduceEq, Int.reduceBEq, Int.reduceBNe, Int.reduceLT, Int.reduceLE, Int.reduceAdd, Int.reduceSub, Int.reduceNeg, Int.reduceToNat, Int.reducePow, Nat.reducePow, Int.reduceMul, Int.reduceDiv, ↓s_slices_DeleteFunc_Pair, ↓enterK_eq e3, enterK_eq e3]
      have h := d_slices_DeleteFunc_Pair _ _ H2 run
      have ht : tidy H2 (v, H2) = (v, H2) := by unfold tidy; split <;> rfl
      rw [ht] at h
      exact h
    have ho : Own EPr H2 T.api_Pair v (aliveS S now) := by unfold aliveS; rw [hf]; exact ow
    refine fin ho s12 (fun b hb => by have := hvb b hb; omega) ?_
    simp (disch := first | with_reducible rfl | assumption | omega | rfl | (simp only [go_sem]; first | done | omega)) only [go_sem, ↓reduceIte, reduceCtorEq, Nat.reduceEqDiff, Nat.reduceAdd, Nat.reduceSub, Nat.reduceMul, Nat.reduceDiv, Nat.reduceMod, Nat.reduceLeDiff, Nat.reduceLT, Nat.reduceBEq, Int.reduceEq, Int.reduceBEq, Int.reduceBNe, Int.reduceLT, Int.reduceLE, Int.reduceAdd, Int.reduceSub, Int.reduceNeg, Int.reduceToNat, Int.reducePow, Nat.reducePow, Int.reduceMul, Int.reduceDiv, ↓s_expire_Store_Alive, hH1, fx1, ↓enterK_eq e2, enterK_eq e2, fx2, ↓enterK_eq e4, enterK_eq e4]
  · have hi : idxP (pB S now) (pl S) 0 = (j : Int) := by rw [hi]; congr 1; omega
    rw [hi] at e3
    have hf' : (pl S).take j = ((pl S).take (j + 1)).filter (fun a => !pB S now a) := hf.symm
    obtain ⟨i', cur', H3, g1, g2, g3, g4, g5, g6, g7⟩ := l_delP (bx := H.n) (v := v) hpl ((pl S).drop (j + 1)) j (j + 1) (pl S) H2 rfl (by omega) (by omega) ok2 r2 fx2 (by omega) ow rfl hf' rfl (fun b hb => by
      have := hvb b hb
      exact ⟨this.2, by omega, fun h => by
        have := r1.lt ((ob_still (by omega) s2 (fun h => h)).1 h)
        omega⟩)
    have n3 := g7.n
    have g1 : ∀ K, l_slices_DeleteFunc_Pair_0 v (clo H.n) (.int .i64 (j : Int)) (.int .i64 ((j : Int) + 1)) H2 (blkK [0, 5] 0 K) = K .normal [(0, v), (5, .int .i64 (i' : Int))] H3 := g1
    have hlt : i' < (pl S).length := by
      rw [List.length_drop] at g5
      omega
    rcases g2 with ⟨h, _⟩ | ⟨h, _⟩ | ⟨b, o, cc, xs, hv, hlc, hbn, hff, ho, hx⟩
    · rw [h] at g3; simp at g3; omega
    · rw [h] at g3; simp at g3; omega
    · have hw : EPr.w = 2 := rfl
      rw [hw] at ho hx
      rw [g3] at hv hlc hx
      have hmul : (pl S).length * 2 ≤ cc * 2 := Nat.mul_le_mul_right _ hlc
      have hvb' := hvb b (by rw [hv]; rfl)
      have q1 : slS T.api_Pair 2 v (some (.int .i64 (i' : Int))) none none H3 = some (.slice (some ⟨b, o + i' * 2, none⟩) ((pl S).length - i') (2 * (cc - i') + 1)) := by rw [hv]; exact sl_lo hff (by omega) hlc
      obtain ⟨zs, hzs⟩ : ∃ zs, zeros [.string (mk []), .string (mk [])] ((pl S).length - i') = zs := ⟨_, rfl⟩
      have hzl : zs.length = ((pl S).length - i') * 2 := by rw [← hzs]; exact zeros_len _
      have hz1 : zs.all Eng.one = true := by rw [← hzs]; exact zeros_one _
      obtain ⟨H4, hH4⟩ : ∃ H4, H3.set b (.cells (spl xs (o + i' * 2) zs) T.api_Pair true) = H4 := ⟨_, rfl⟩
      have q2 : xclear Try.prog [T.sl_api_Pair] (.slice (some ⟨b, o + i' * 2, none⟩) ((pl S).length - i') (2 * (cc - i') + 1)) H3 = some (.tuple #[], H4) := by
        rw [clearP (by omega), hzs, hff, wrL_c (by rw [hzl, Nat.sub_mul]; omega) hz1, setB_s, ← hH4]
        rfl
      have f4 : H4.f b = .cells (spl xs (o + i' * 2) zs) T.api_Pair true := by rw [← hH4]; exact set_f_eq
      have q3 : slS T.api_Pair 2 v none (some (.int .i64 (i' : Int))) none H4 = some (.slice (some ⟨b, o, none⟩) i' (2 * cc + 1)) := by rw [hv]; exact sl_hi f4 (by omega)
      have hfl : (aliveS S now).length = i' := by
        have := congrArg List.length g6
        rw [List.length_take, g3] at this
        unfold aliveS
        omega
      have ow4 : Own EPr H4 T.api_Pair (.slice (some ⟨b, o, none⟩) i' (2 * cc + 1)) (aliveS S now) := by
        refine .inr (.inr ⟨b, o, cc, _, by rw [hfl], by omega, by rw [← hH4]; exact hbn, f4, by rw [spl_length, hw, ho], ?_⟩)
        rw [hfl, hw]
        have hcur : EPr.cells (aliveS S now) = (EPr.cells cur').take (i' * 2) := by
          have := EPr.cells_take cur' i'
          rw [hw] at this
          rw [this, g6]
          rfl
        rw [hcur, ← hx, List.take_take, Nat.min_eq_left (by omega)]
        apply List.ext_getElem?
        intro t
        by_cases ht : t < i' * 2
        · rw [List.getElem?_take_of_lt ht, List.getElem?_take_of_lt ht, List.getElem?_drop, List.getElem?_drop, spl_get _ _ _ _ (by rw [hzl, Nat.sub_mul]; omega), if_neg (by omega)]
        · rw [List.getElem?_eq_none (by simp only [List.length_take]; omega), List.getElem?_eq_none (by simp only [List.length_take]; omega)]
      have st4 : Still H H4 := by
        refine Fr.then (S' := OnlyOf v) s12 ?_ fun x hx' h => ?_
        · rw [← hH4]
          exact g7.set _ _ fun _ => by unfold OnlyOf; rw [hv]; rfl
        · unfold OnlyOf at h
          have := hvb x h
          omega
      have run : s_slices_DeleteFunc_Pair guardK condL shareL Try.prog CC l_slices_DeleteFunc_Pair_0 v (clo H.n) H2 (endK Try.prog [.tmp 4]) = some (.slice (some ⟨b, o, none⟩) i' (2 * cc + 1), H4) := by
        simp (disch := first | with_reducible rfl | assumption | omega | rfl | (simp only [go_sem]; first | done | omega)) only [go_sem, ↓reduceIte, reduceCtorEq, Nat.reduceEqDiff, Nat.reduceAdd, Nat.reduceSub, Nat.reduceMul, Nat.reduceDiv, Nat.reduceMod, Nat.reduceLeDiff, Nat.reduceLT, Nat.reduceBEq, Int.reduceEq, Int.reduceBEq, Int.reduceBNe, Int.reduceLT, Int.reduceLE, Int.reduceAdd, Int.reduceSub, Int.reduceNeg, Int.reduceToNat, Int.reducePow, Nat.reducePow, Int.reduceMul, Int.reduceDiv, ↓s_slices_DeleteFunc_Pair, ↓enterK_eq e3, enterK_eq e3, g1, q1, q2, q3]
      have e4 : CC F.slices_DeleteFunc_Pair [v, clo H.n] H2 = some (.slice (some ⟨b, o, none⟩) i' (2 * cc + 1), H4) := (d_slices_DeleteFunc_Pair _ _ H2 run).trans (congrArg some (tidy_mem rfl))
      refine fin ow4 st4 (fun b' hb' => by cases hb'; show H.n ≤ b; omega) ?_
      simp (disch := first | with_reducible rfl | assumption | omega | rfl | (simp only [go_sem]; first | done | omega)) only [go_sem, ↓reduceIte, reduceCtorEq, Nat.reduceEqDiff, Nat.reduceAdd, Nat.reduceSub, Nat.reduceMul, Nat.reduceDiv, Nat.reduceMod, Nat.reduceLeDiff, Nat.reduceLT, Nat.reduceBEq, Int.reduceEq, Int.reduceBEq, Int.reduceBNe, Int.reduceLT, Int.reduceLE, Int.reduceAdd, Int.reduceSub, Int.reduceNeg, Int.reduceToNat, Int.reducePow, Nat.reducePow, Int.reduceMul, Int.reduceDiv, ↓s_expire_Store_Alive, hH1, fx1, ↓enterK_eq e2, enterK_eq e2, fx2, ↓enterK_eq e4, enterK_eq e4]
end

end Go.Proofs.Ythjjkinpbpealaa

/-
  The seat's functions as terms over the engine's combinators (a program of ours printed it).
  Conditions: none. By an AI agent.
-/
set_option linter.unusedVariables false
namespace Go.Proofs.Ythjjkinpbpealaa
open Go Eng

/-! ticketline.ticketlinelaw45.ExpireMany -/

noncomputable def s_law_ExpireMany (mg : GT) (mc : CT) (ms : ST) (P : Program) (C : CallF) (L0 : Value → Value → Value → Value → AHeap → K → Res) (a0 : Value) (a1 : Value) (H : AHeap) (K0 : K) : Res :=
bareK (xbin P .lss T.int (.tmp 13) (.const (.int .i64 19998)) a0 (.int .i64 19998)) H fun t14 h1 =>
mg t14 false (fun o1 => o1 a0 h1) h1 fun t16 h2 =>
mg t14 false (fun o2 => bareK (xbin P .gtr T.int (.tmp 16) (.const (.int .i64 20002)) t16 (.int .i64 20002)) h2 o2) h2 fun t17 h3 =>
pickK t14 (.bool true) t17 fun t18 =>
mg t18 false (fun o3 => o3 a1 h3) h3 fun t20 h4 =>
mg t18 false (fun o4 => bareK (xbin P .lss T.int (.tmp 20) (.const (.int .i64 0)) t20 (.int .i64 0)) h4 o4) h4 fun t21 h5 =>
pickK t18 (.bool true) t21 fun t22 =>
mg t22 false (fun o5 => o5 a1 h5) h5 fun t24 h6 =>
mg t22 false (fun o6 => bareK (xbin P .gtr T.int (.tmp 24) (.const (.int .i64 200)) t24 (.int .i64 200)) h6 o6) h6 fun t25 h7 =>
pickK t22 (.bool true) t25 fun t26 =>
mc t26 (fun k7 => enterK C F.law_known [] h7 fun t27 h8 =>
k7 .ret [(4, t27)] h8) (fun k7 =>
k7 .normal [(0, a0), (1, a1)] h7) (seqK (fun tT h9 =>
bareK (bldS #[(.slice none 0 0), (.map none), (.int .i64 0)] [(0, 1), (1, 1), (2, 1)] []) h9 fun t28 h10 =>
bothK (newv T.expire_Store t28 h10) fun t29 h11 =>
ms (fun k8 =>
L0 (get tT 0) (get tT 1) t29 (.int .i64 1) h11 (blkK [0, 1, 5] 0 k8)) (seqK (fun tT_1 h12 =>
nextK C h12 (xbuiltin P .min [T.int, T.int] [(get tT_1 0), (.int .i64 20000)] h12) fun t54 h13 =>
nextK C h13 (xbuiltin P .min [T.int, T.int] [t54, (get tT_1 1)] h13) fun t57 h14 =>
enterK C F.expire_Store_Pass [(get tT_1 5), (get tT_1 1)] h14 fun t60 h15 =>
bareK (xbin P .neq T.api_Errno (.tmp 60) (.const (.int .i64 0)) t60 (.int .i64 0)) h15 fun t61 h16 =>
mg t61 false (fun o9 => o9 (get tT_1 5) h16) h16 fun t63 h17 =>
mg t61 false (fun o10 => enterK C F.expire_Store_Waiting [t63] h17 o10) h17 fun t64 h18 =>
mg t61 false (fun o11 => o11 t57 h18) h18 fun t65 h19 =>
mg t61 false (fun o12 => bareK (xbin P .neq T.int (.tmp 64) (.tmp 65) t64 t65) h19 o12) h19 fun t66 h20 =>
pickK t61 (.bool true) t66 fun t67 =>
mg t67 false (fun o13 => o13 (get tT_1 5) h20) h20 fun t69 h21 =>
mg t67 false (fun o14 => enterK C F.expire_Store_Len [t69] h21 o14) h21 fun t70 h22 =>
mg t67 false (fun o15 => o15 t54 h22) h22 fun t71 h23 =>
mg t67 false (fun o16 => o16 t57 h23) h23 fun t72 h24 =>
mg t67 false (fun o17 => bareK (xbin P .sub T.int (.tmp 71) (.tmp 72) t71 t72) h24 o17) h24 fun t73 h25 =>
mg t67 false (fun o18 => bareK (xbin P .neq T.int (.tmp 70) (.tmp 73) t70 t73) h25 o18) h25 fun t74 h26 =>
pickK t67 (.bool true) t74 fun t75 =>
mc t75 (fun k19 => k19 .ret [(4, (.bool false))] h26) (fun k19 =>
k19 .normal [(5, (get tT_1 5)), (9, t54), (10, t57)] h26) (seqK (fun tT_2 h27 =>
enterK C F.expire_Store_Sweep [(get tT_2 5), (.int .i64 30000)] h27 fun t78 h28 =>
bareK (xextract t78 0) h28 fun t79 h29 =>
bareK (xextract t78 1) h29 fun t80 h30 =>
bareK (xbin P .eql T.api_Errno (.tmp 81) (.const (.int .i64 0)) t80 (.int .i64 0)) h30 fun t82 h31 =>
mg t82 true (fun o20 => o20 t79 h31) h31 fun t84 h32 =>
mg t82 true (fun o21 => bareK (lenS t84) h32 o21) h32 fun t85 h33 =>
mg t82 true (fun o22 => o22 (get tT_2 10) h33) h33 fun t86 h34 =>
mg t82 true (fun o23 => bareK (xbin P .eql T.int (.tmp 85) (.tmp 86) t85 t86) h34 o23) h34 fun t87 h35 =>
pickK t82 t87 (.bool false) fun t88 =>
mg t88 true (fun o24 => o24 (get tT_2 5) h35) h35 fun t90 h36 =>
mg t88 true (fun o25 => enterK C F.expire_Store_Waiting [t90] h36 o25) h36 fun t91 h37 =>
mg t88 true (fun o26 => bareK (xbin P .eql T.int (.tmp 91) (.const (.int .i64 0)) t91 (.int .i64 0)) h37 o26) h37 fun t92 h38 =>
pickK t88 t92 (.bool false) fun t93 =>
mg t93 true (fun o27 => o27 (get tT_2 5) h38) h38 fun t95 h39 =>
mg t93 true (fun o28 => enterK C F.expire_Store_Len [t95] h39 o28) h39 fun t96 h40 =>
mg t93 true (fun o29 => o29 (get tT_2 9) h40) h40 fun t97 h41 =>
mg t93 true (fun o30 => o30 (get tT_2 10) h41) h41 fun t98 h42 =>
mg t93 true (fun o31 => bareK (xbin P .sub T.int (.tmp 97) (.tmp 98) t97 t98) h42 o31) h42 fun t99 h43 =>
mg t93 true (fun o32 => bareK (xbin P .eql T.int (.tmp 96) (.tmp 99) t96 t99) h43 o32) h43 fun t100 h44 =>
pickK t93 t100 (.bool false) fun t101 =>
mg t101 true (fun o33 => o33 (get tT_2 5) h44) h44 fun t103 h45 =>
mg t101 true (fun o34 => enterK C F.expire_Store_Alive [t103] h45 o34) h45 fun t104 h46 =>
mg t101 true (fun o35 => bareK (lenS t104) h46 o35) h46 fun t105 h47 =>
mg t101 true (fun o36 => o36 (get tT_2 9) h47) h47 fun t106 h48 =>
mg t101 true (fun o37 => o37 (get tT_2 10) h48) h48 fun t107 h49 =>
mg t101 true (fun o38 => bareK (xbin P .sub T.int (.tmp 106) (.tmp 107) t106 t107) h49 o38) h49 fun t108 h50 =>
mg t101 true (fun o39 => bareK (xbin P .eql T.int (.tmp 105) (.tmp 108) t105 t108) h50 o39) h50 fun t109 h51 =>
pickK t101 t109 (.bool false) fun t110 =>
mg t110 true (fun o40 => enterK C F.law_known [] h51 o40) h51 fun t112 h52 =>
pickK t110 t112 (.bool false) fun t113 =>
K0 .ret [(4, t113)] h52) K0)) K0)) K0)

noncomputable def s_law_ExpireMany_b0 (mg : GT) (mc : CT) (ms : ST) (P : Program) (C : CallF) (L0 : Value → Value → Value → Value → AHeap → K → Res) (v0 : Value) (v1 : Value) (v5 : Value) (v6 : Value) (H : AHeap) (k : K) : Res :=
bareK (xbin P .leq T.int (.tmp 30) (.tmp 31) v6 v0) H fun t32 h12 =>
mc t32 (fun k9 => k9 .normal [(0, v0), (1, v1), (5, v5), (6, v6)] h12) (fun k9 =>
k9 (.exit 0) [(32, t32), (31, v0), (30, v6), (0, v0), (1, v1), (5, v5), (6, v6)] h12) (seqK (fun tT h13 =>
ms (fun k10 =>
bareK (xbin P .quo T.int (.tmp 35) (.const (.int .i64 65536)) (get tT 6) (.int .i64 65536)) h13 fun t36 h14 =>
bothK (xconv P T.int T.uint8 t36 h14) fun t37 h15 =>
bareK (xbin P .quo T.int (.tmp 38) (.const (.int .i64 256)) (get tT 6) (.int .i64 256)) h15 fun t39 h16 =>
bothK (xconv P T.int T.uint8 t39 h16) fun t40 h17 =>
bothK (xconv P T.int T.uint8 (get tT 6) h17) fun t42 h18 =>
bothK (bldL T.uint8 [(.int .u8 0)] 3 [(0, t37), (1, t40), (2, t42)] h18) fun t43 h19 =>
bothK (xconv P T.sl_uint8 T.string t43 h19) fun t44 h20 =>
bareK (xbin P .gtr T.int (.tmp 45) (.const (.int .i64 20000)) (get tT 6) (.int .i64 20000)) h20 fun t46 h21 =>
mc t46 (fun k11 => k11 .normal [(0, (get tT 0)), (1, (get tT 1)), (5, (get tT 5)), (6, (get tT 6)), (7, t44), (8, (.int .i64 7))] h21) (fun k11 =>
k11 .normal [(0, (get tT 0)), (1, (get tT 1)), (5, (get tT 5)), (6, (get tT 6)), (7, t44), (8, (.int .i64 0))] h21) (seqK (fun tT_1 h22 =>
enterK C F.expire_Store_Put [(get tT_1 5), (get tT_1 7), (.string (mk [])), (get tT_1 6)] h22 fun t50 h23 =>
bareK (xbin P .neq T.api_Errno (.tmp 50) (.tmp 51) t50 (get tT_1 8)) h23 fun t52 h24 =>
mc t52 (fun k12 => k12 .ret [(4, (.bool false))] h24) (fun k12 =>
k12 .normal [(0, (get tT_1 0)), (1, (get tT_1 1)), (5, (get tT_1 5)), (6, (get tT_1 6))] h24) (blkK [0, 1, 5, 6] 1 k10)) (blkK [0, 1, 5, 6] 1 k10))) (seqK (fun tT_2 h25 =>
bareK (xbin P .add T.int (.tmp 33) (.const (.int .i64 1)) (get tT_2 6) (.int .i64 1)) h25 fun t34 h26 =>
k .normal [(0, (get tT_2 0)), (1, (get tT_2 1)), (5, (get tT_2 5)), (6, t34)] h26) (afterK [0, 1, 5, 6] k))) (afterK [0, 1, 5, 6] k))

theorem s_law_ExpireMany_eq (M : CombL) (C : CallF) (LP : LoopH) (a0 : Value) (a1 : Value) (H : AHeap) : dBodyL M Try.prog hints C LP F.law_ExpireMany [a0, a1] H = s_law_ExpireMany M.b.g M.c M.s Try.prog C (fun v0 v1 v5 v6 H k => loopL M Try.prog hints C LP F.law_ExpireMany 0 [(0, v0), (1, v1), (5, v5), (6, v6)] H k) a0 a1 H (endK Try.prog [.tmp 4]) := by kernel_rfl

theorem s_law_ExpireMany_b0_eq (M : CombL) (C : CallF) (LP : LoopH) (v0 : Value) (v1 : Value) (v5 : Value) (v6 : Value) (H : AHeap) (k : K) : bodyL M Try.prog hints C LP F.law_ExpireMany 0 [(0, v0), (1, v1), (5, v5), (6, v6)] H (afterK [0, 1, 5, 6] k) = s_law_ExpireMany_b0 M.b.g M.c M.s Try.prog C (fun v0 v1 v5 v6 H k => loopL M Try.prog hints C LP F.law_ExpireMany 0 [(0, v0), (1, v1), (5, v5), (6, v6)] H k) v0 v1 v5 v6 H k := by kernel_rfl

end Go.Proofs.Ythjjkinpbpealaa

/-
  The equations of the seat's functions over calls in the limit (a program of ours printed it).
  Conditions: none. By an AI agent.
-/
set_option linter.unusedVariables false
namespace Go.Proofs.Ythjjkinpbpealaa
open Go Eng

theorem u_sl_uint8 : Try.prog.underlying T.sl_uint8 = Try.prog.underlying 30 := rfl
@[go_sem] theorem x_int_uint8 {n : Int} {H : AHeap} : xconv Try.prog T.int T.uint8 (.int .i64 n) H = some (.int .u8 (IntKind.wrap .u8 n), H) := xconv_int (P := Try.prog) (s := 3) (t := 5) Try.underlying3 Try.underlying5

noncomputable def l_law_ExpireMany_0 (v0 : Value) (v1 : Value) (v5 : Value) (v6 : Value) (H : AHeap) (k : K) : Res := loopL stdL Try.prog hints CC limLP F.law_ExpireMany 0 [(0, v0), (1, v1), (5, v5), (6, v6)] H k
theorem r_law_ExpireMany_0 (v0 : Value) (v1 : Value) (v5 : Value) (v6 : Value) (H : AHeap) (k : K) : l_law_ExpireMany_0 v0 v1 v5 v6 H k = s_law_ExpireMany_b0 guardK condL shareL Try.prog CC l_law_ExpireMany_0 v0 v1 v5 v6 H (seqK (fun T H => l_law_ExpireMany_0 (get T 0) (get T 1) (get T 5) (get T 6) H k) k) := ((loopL_next (by kernel_rfl) rfl H k).trans (s_law_ExpireMany_b0_eq stdL CC limLP v0 v1 v5 v6 H _)).trans (by kernel_rfl)
theorem d_law_ExpireMany (a0 : Value) (a1 : Value) (H : AHeap) {r : Value × AHeap} (h : s_law_ExpireMany guardK condL shareL Try.prog CC l_law_ExpireMany_0 a0 a1 H (endK Try.prog [.tmp 4]) = some r) : CC F.law_ExpireMany [a0, a1] H = some (tidy H r) := D_body (by kernel_rfl) ((s_law_ExpireMany_eq stdL CC limLP a0 a1 H).trans (Eq.trans (show s_law_ExpireMany stdL.b.g stdL.c stdL.s Try.prog CC (fun v0 v1 v5 v6 H k => loopL stdL Try.prog hints CC limLP F.law_ExpireMany 0 [(0, v0), (1, v1), (5, v5), (6, v6)] H k) a0 a1 H (endK Try.prog [.tmp 4]) = s_law_ExpireMany guardK condL shareL Try.prog CC l_law_ExpireMany_0 a0 a1 H (endK Try.prog [.tmp 4]) by kernel_rfl) h))

end Go.Proofs.Ythjjkinpbpealaa

/-
  Chapter 45: the law ExpireMany runs to true.
  Conditions: none. By an AI agent.
-/
set_option maxRecDepth 10000
set_option linter.unusedSimpArgs false
set_option linter.unusedVariables false
namespace Go.Proofs.Ythjjkinpbpealaa
open Go Eng
attribute [local congr] bareK_congr' bothK_congr' quietK_congr'

/-! ### what is swept out -/
theorem del_filter : ∀ {S : List En}, Srt (pl S) → ∀ (k : ByteArray), delR S k = S.filter fun x => !decide (x.key = k)
  | [], _, _ => rfl
  | y :: S, hs, k => by
    have hp := List.pairwise_cons.1 hs
    rw [delR, List.filter_cons]
    by_cases h : y.key = k
    · rw [if_pos h]
      have : (!decide (y.key = k)) = false := by simp [h]
      rw [this, if_neg (by decide)]
      refine (List.filter_eq_self.2 fun x hx => ?_).symm
      have h1 : cmpS y.key x.key < 0 := hp.1 (toP x) (List.mem_map_of_mem hx)
      have : ¬ x.key = k := fun e => by rw [e, ← h, cmpS_self] at h1; exact absurd h1 (by decide)
      simp [this]
    · rw [if_neg h]
      have : (!decide (y.key = k)) = true := by simp [h]
      rw [this, if_pos rfl, del_filter hp.2 k]
theorem sweep_srt : ∀ (ks : List ByteArray) {S : List En}, Srt (pl S) → Srt (pl (sweepS S ks))
  | [], _, hs => hs
  | k :: ks, _, hs => sweep_srt ks (del_srt hs k)
theorem sweep_filter : ∀ (ks : List ByteArray) {S : List En}, Srt (pl S) → sweepS S ks = S.filter fun x => ks.all fun k => !decide (x.key = k)
  | [], S, _ => by
    show S = _
    exact (List.filter_eq_self.2 fun x _ => rfl).symm
  | k :: ks, S, hs => by
    show sweepS (delR S k) ks = _
    rw [sweep_filter ks (del_srt hs k), del_filter hs, List.filter_filter]
    refine List.filter_congr fun x _ => ?_
    rw [List.all_cons, Bool.and_comm]
def dueB (now : Nat) (x : En) : Bool := decide (0 < x.e) && decide (x.e ≤ now)
theorem key_uniq {S : List En} (hs : Srt (pl S)) {x y : En} (hx : x ∈ S) (hy : y ∈ S) (h : x.key = y.key) : x = y := by
  have h1 := getS_mem hs hx
  have h2 := getS_mem hs hy
  rw [h, h2] at h1
  exact (Option.some.inj h1).symm
theorem end_of_mem {S : List En} (hs : Srt (pl S)) {x : En} (hx : x ∈ S) : endOf S x.key = x.e := by
  rw [endOf_get, getS_mem hs hx]
  rfl
theorem endB_mem {S : List En} (hs : Srt (pl S)) {x : En} (hx : x ∈ S) (now : Nat) : endB S now x.key = dueB now x := by
  unfold endB dueB
  rw [end_of_mem hs hx]
theorem sweep_all {S : List En} (hs : Srt (pl S)) (now : Nat) : sweepS S (wS S now) = S.filter fun x => !dueB now x := by
  rw [sweep_filter _ hs]
  refine List.filter_congr fun x hx => ?_
  have key : (wS S now).all (fun k => !decide (x.key = k)) = true ↔ ¬ dueB now x = true := by
    rw [List.all_eq_true]
    constructor
    · intro h hd
      unfold dueB at hd
      simp only [Bool.and_eq_true, decide_eq_true_eq] at hd
      have := h x.key (wS_mem.2 ⟨x, hx, rfl, hd⟩)
      simp at this
    · intro h k hk
      obtain ⟨y, hy, rfl, h1, h2⟩ := wS_mem.1 hk
      have : ¬ x.key = y.key := fun e => by
        have := key_uniq hs hx hy e
        subst this
        exact h (by unfold dueB; simp [h1, h2])
      simp [this]
  cases hd : dueB now x with
  | true => rw [hd] at key; simpa using key
  | false => rw [hd] at key; simpa using key
theorem wS_none {S : List En} {now : Nat} (h : ∀ x ∈ S, ¬ dueB now x = true) : wS S now = [] := by
  refine List.length_eq_zero_iff.1 ?_
  rw [wS_len]
  have : (S.filter fun x => decide (0 < x.e) && decide (x.e ≤ now)) = [] := List.filter_eq_nil_iff.2 fun x hx => by
    have := h x hx
    unfold dueB at this
    exact this
  rw [this]
  rfl
theorem alive_len {S : List En} (hs : Srt (pl S)) (now : Nat) : (aliveS S now).length = S.length - (wS S now).length := by
  have h1 : aliveS S now = pl (S.filter fun x => !dueB now x) := by
    unfold aliveS pl
    rw [List.filter_map]
    congr 1
    refine List.filter_congr fun x hx => ?_
    show (!endB S now x.key) = _
    rw [endB_mem hs hx]
  rw [h1, wS_len]
  have h2 : (pl (S.filter fun x => !dueB now x)).length = (S.filter fun x => !dueB now x).length := by simp [pl]
  rw [h2]
  have h3 : ∀ S : List En, (S.filter fun x => !dueB now x).length + (S.filter fun x => dueB now x).length = S.length := by
    intro S
    induction S with
    | nil => rfl
    | cons x S ih =>
      rw [List.filter_cons, List.filter_cons]
      cases dueB now x <;> simp <;> omega
  have := h3 S
  have h4 : (S.filter fun x => decide (0 < x.e) && decide (x.e ≤ now)) = S.filter fun x => dueB now x := rfl
  rw [h4]
  omega

/-! ### the keys -/
def kL (i : Nat) : List UInt8 := [0, UInt8.ofNat (i / 256), UInt8.ofNat (i % 256)]
def kN (i : Nat) : ByteArray := mk (kL i)
theorem kN_lt {i j : Nat} (h : i < j) (hj : j < 65536) : cmpS (kN i) (kN j) < 0 := by
  unfold cmpS kN
  rw [bl_mk, bl_mk]
  unfold kL
  have e : ∀ n, n < 256 → (UInt8.ofNat n).toNat = n := fun n hn => UInt8.toNat_ofNat_of_lt' hn
  have lt : ∀ a b, a < 256 → b < 256 → (UInt8.ofNat a < UInt8.ofNat b ↔ a < b) := fun a b ha hb => by rw [u8_lt, e a ha, e b hb]
  have a1 := lt (i / 256) (j / 256) (by omega) (by omega)
  have a2 := lt (j / 256) (i / 256) (by omega) (by omega)
  have b1 := lt (i % 256) (j % 256) (by omega) (by omega)
  simp only [Lib.compareBytes]
  rw [if_neg (by decide), if_neg (by decide)]
  by_cases c1 : i / 256 < j / 256
  · rw [if_pos (a1.2 c1)]; decide
  · rw [if_neg (fun h => c1 (a1.1 h)), if_neg (fun h => by have := a2.1 h; omega), if_pos (b1.2 (by omega))]
    decide
def eM (i : Nat) : En := ⟨kN (i + 1), mk [], i + 1⟩
def SM (n : Nat) : List En := (List.range n).map eM
theorem SM_succ (n : Nat) : SM (n + 1) = SM n ++ [eM n] := by
  unfold SM
  rw [List.range_succ, List.map_append]
  rfl
theorem SM_len (n : Nat) : (SM n).length = n := by simp [SM]
theorem SM_mem {n : Nat} {x : En} : x ∈ SM n ↔ ∃ i, i < n ∧ x = eM i := by
  unfold SM
  constructor
  · intro h
    obtain ⟨i, hi, rfl⟩ := List.mem_map.1 h
    exact ⟨i, List.mem_range.1 hi, rfl⟩
  · rintro ⟨i, hi, rfl⟩
    exact List.mem_map.2 ⟨i, List.mem_range.2 hi, rfl⟩
theorem ins_end_list : ∀ {S : List En} {x : En}, (∀ y ∈ S, cmpS y.key x.key < 0) → insR S x = S ++ [x]
  | [], _, _ => rfl
  | y :: S, x, h => by
    rw [insR, if_pos (h y (by simp)), ins_end_list fun z hz => h z (by simp [hz])]
    rfl
theorem SM_low {n i : Nat} (h : n ≤ i) (hi : i + 1 < 65536) : ∀ y ∈ SM n, cmpS y.key (kN (i + 1)) < 0 := fun y hy => by
  obtain ⟨j, hj, rfl⟩ := SM_mem.1 hy
  exact kN_lt (by omega) (by omega)
theorem SM_due (tick : Nat) : ∀ n, ((SM n).filter fun x => decide (0 < x.e) && decide (x.e ≤ tick)).length = min n tick
  | 0 => by simp [SM]
  | n + 1 => by
    rw [SM_succ, List.filter_append, List.length_append, SM_due tick n]
    by_cases h : n + 1 ≤ tick
    · have : ([eM n].filter fun x => decide (0 < x.e) && decide (x.e ≤ tick)) = [eM n] := by simp [eM, h]
      rw [this]
      simp
      omega
    · have : ([eM n].filter fun x => decide (0 < x.e) && decide (x.e ≤ tick)) = [] := by simp [eM]; omega
      rw [this]
      simp
      omega
theorem chk_kN (i : Nat) : chk (kN i) [mk []] = 0 := by
  unfold chk kN kL
  rw [bl_mk]
  simp [bl_mk]

theorem wrap8 (n : Nat) : IntKind.wrap .u8 (n : Int) = ((n % 256 : Nat) : Int) := by
  simp [IntKind.wrap, IntKind.bits, IntKind.signed]
theorem cv8 {H : AHeap} (n : Nat) : xconv Try.prog T.int T.uint8 (.int .i64 (n : Int)) H = some (.int .u8 ((n % 256 : Nat) : Int), H) := by
  rw [show xconv Try.prog T.int T.uint8 (.int .i64 (n : Int)) H = _ from xconv_int Try.underlying3 Try.underlying5, wrap8]
theorem bcell (n : Nat) (h : n < 256) : byteCell (UInt8.ofNat n) = .int .u8 (n : Int) := by
  unfold byteCell
  rw [UInt8.toNat_ofNat_of_lt' h]

section
variable {c : Nat}
/-- The key of a round. -/
theorem q_keyM (i : Nat) (hi : i < 65536) (H : AHeap) : ∃ H1, Still H H1 ∧ bldL T.uint8 [(.int .u8 0)] 3 [(0, .int .u8 ((i / 65536 % 256 : Nat) : Int)), (1, .int .u8 ((i / 256 % 256 : Nat) : Int)), (2, .int .u8 ((i % 256 : Nat) : Int))] H = some (.slice (some ⟨H.n, 0, none⟩) 3 (2 * 3), H1) ∧
    xconv Try.prog T.sl_uint8 T.string (.slice (some ⟨H.n, 0, none⟩) 3 (2 * 3)) H1 = some (.string (kN i), H1) := by
  obtain ⟨H1, hH1⟩ : ∃ H1, H.push (.cells (EB.cells (kL i)) T.uint8 true) = H1 := ⟨_, rfl⟩
  have hcells : EB.cells (kL i) = [.int .u8 ((i / 65536 % 256 : Nat) : Int), .int .u8 ((i / 256 % 256 : Nat) : Int), .int .u8 ((i % 256 : Nat) : Int)] := by
    rw [EB_cells]
    unfold kL
    simp only [List.map_cons, List.map_nil]
    rw [bcell (i / 256) (by omega), bcell (i % 256) (by omega), show i / 65536 % 256 = 0 by omega, show i / 256 % 256 = i / 256 by omega]
    rfl
  have s1 : Still H H1 := by rw [← hH1]; exact (Fr.refl H).push _
  have n1 : H1.n = H.n + 1 := by rw [← hH1]; rfl
  refine ⟨H1, s1, ?_, ?_⟩
  · rw [← hH1, hcells]
    rfl
  · have hr : Rd EB H1 (.slice (some ⟨H.n, 0, none⟩) 3 (2 * 3)) (kL i) := .inr (.inr ⟨H.n, 0, _, rfl, by unfold kL; simp, by omega, by
      rw [← hH1, push_f_eq rfl, hcells]
      rfl⟩)
    exact conv_bs Try.underlying30 Try.underlying5 Try.underlying9 hr

theorem put_many (i : Nat) (hi : i < 20002) : putX (SM (min i 20000)) 0 (kN (i + 1)) (mk []) ((i + 1 : Nat) : Int) = (if i < 20000 then (0, SM (min (i + 1) 20000)) else (7, SM (min (i + 1) 20000))) := by
  unfold putX
  rw [if_neg (by omega), if_neg (fun h => h (chk_kN _)), if_neg (by omega)]
  have hlow : ∀ y ∈ SM (min i 20000), cmpS y.key (kN (i + 1)) < 0 := SM_low (by omega) (by omega)
  have hg : getS (SM (min i 20000)) (kN (i + 1)) = none := getS_none fun x hx e => by
    have := hlow x hx
    rw [e, cmpS_self] at this
    exact absurd this (by decide)
  rw [hg, SM_len]
  by_cases h : i < 20000
  · rw [if_neg (by simp; omega), if_pos h, Int.toNat_natCast, show min i 20000 = i by omega, show min (i + 1) 20000 = i + 1 by omega, SM_succ]
    rw [show min i 20000 = i by omega] at hlow
    rw [ins_end_list hlow]
    rfl
  · rw [if_pos ⟨rfl, by omega⟩, if_neg h, show min i 20000 = min (i + 1) 20000 by omega]

theorem l_many (many : Nat) (v1 : Value) (hm : many ≤ 20002) : ∀ (d i : Nat) (m : Option Nat) (E : Ec) (H : AHeap), i + d = many → Ok H → StR H c m E (SM (min i 20000)) 0 →
    ∃ m' E' H', (∀ K, l_law_ExpireMany_0 (.int .i64 (many : Int)) v1 (pt c) (.int .i64 ((i + 1 : Nat) : Int)) H (blkK [0, 1, 5] 0 K) = K .normal [(0, .int .i64 (many : Int)), (1, v1), (5, pt c)] H') ∧ Ok H' ∧ StR H' c m' E' (SM (min many 20000)) 0
  | 0, i, m, E, H, hi, ok, r => by
    obtain rfl : i = many := by omega
    have hlt : ¬ ((i + 1 : Nat) : Int) ≤ (i : Int) := by omega
    refine ⟨m, E, H, fun K => ?_, ok, r⟩
    rw [r_law_ExpireMany_0]
    generalize ((i + 1 : Nat) : Int) = I at hlt ⊢
    simp (disch := first | with_reducible rfl | assumption | omega | rfl | (simp only [go_sem]; first | done | omega)) only [go_sem, ↓reduceIte, reduceCtorEq, Nat.reduceEqDiff, Nat.reduceAdd, Nat.reduceSub, Nat.reduceMul, Nat.reduceDiv, Nat.reduceMod, Nat.reduceLeDiff, Nat.reduceLT, Nat.reduceBEq, Int.reduceEq, Int.reduceBEq, Int.reduceBNe, Int.reduceLT, Int.reduceLE, Int.reduceAdd, Int.reduceSub, Int.reduceNeg, Int.reduceToNat, Int.reducePow, Nat.reducePow, Int.reduceMul, Int.reduceDiv, ↓s_law_ExpireMany_b0, hlt]
  | d + 1, i, m, E, H, hi, ok, r => by
    have hlt : ((i + 1 : Nat) : Int) ≤ (many : Int) := by omega
    have q1 : ∀ ox oy, xbin Try.prog .quo T.int ox oy (.int .i64 ((i + 1 : Nat) : Int)) (.int .i64 65536) = some (.int .i64 (((i + 1) / 65536 : Nat) : Int)) := fun ox oy => quoN (b := 65536) (by decide) (by omega)
    have q2 : ∀ ox oy, xbin Try.prog .quo T.int ox oy (.int .i64 ((i + 1 : Nat) : Int)) (.int .i64 256) = some (.int .i64 (((i + 1) / 256 : Nat) : Int)) := fun ox oy => quoN (b := 256) (by decide) (by omega)
    have w1 := fun H : AHeap => cv8 (H := H) ((i + 1) / 65536)
    have w2 := fun H : AHeap => cv8 (H := H) ((i + 1) / 256)
    have w3 := fun H : AHeap => cv8 (H := H) (i + 1)
    obtain ⟨H1, s1, bd, cv⟩ := q_keyM (i + 1) (by omega) H
    have r1 := r.still s1
    have ok1 := s1.ok ok
    obtain ⟨m', E', H2, e2, r2, u2⟩ := q_xPut ok1 r1 (kN (i + 1)) (mk []) ((i + 1 : Nat) : Int)
    rw [put_many i (by omega)] at e2 r2
    have ok2 := u2.fr.ok ok1
    have hadd : ∀ ox oy, xbin Try.prog .add T.int ox oy (.int .i64 ((i + 1 : Nat) : Int)) (.int .i64 1) = some (.int .i64 ((i + 1 + 1 : Nat) : Int)) := fun ox oy => by
      rw [add_i64 (by omega)]
      rfl
    by_cases hg : i < 20000
    · rw [if_pos hg] at e2 r2
      have hg' : ¬ (20000 : Int) < ((i + 1 : Nat) : Int) := by omega
      obtain ⟨m3, E3, H3, g1, g2, g3⟩ := l_many many v1 hm d (i + 1) m' E' H2 (by omega) ok2 r2
      refine ⟨m3, E3, H3, fun K => ?_, g2, g3⟩
      have ih := g1 K
      rw [r_law_ExpireMany_0]
      generalize ((i + 1 : Nat) : Int) = I at hlt q1 q2 w3 e2 hg' hadd ⊢
      generalize (((i + 1) / 65536 : Nat) : Int) = I1 at q1 w1
      generalize (((i + 1) / 256 : Nat) : Int) = I2 at q2 w2
      generalize (((i + 1) / 65536 % 256 : Nat) : Int) = J1 at w1 bd
      generalize (((i + 1) / 256 % 256 : Nat) : Int) = J2 at w2 bd
      generalize (((i + 1) % 256 : Nat) : Int) = J3 at w3 bd
      simp (disch := first | with_reducible rfl | assumption | omega | rfl | (simp only [go_sem]; first | done | omega)) only [go_sem, ↓reduceIte, reduceCtorEq, Nat.reduceEqDiff, Nat.reduceAdd, Nat.reduceSub, Nat.reduceMul, Nat.reduceDiv, Nat.reduceMod, Nat.reduceLeDiff, Nat.reduceLT, Nat.reduceBEq, Int.reduceEq, Int.reduceBEq, Int.reduceBNe, Int.reduceLT, Int.reduceLE, Int.reduceAdd, Int.reduceSub, Int.reduceNeg, Int.reduceToNat, Int.reducePow, Nat.reducePow, Int.reduceMul, Int.reduceDiv, ↓s_law_ExpireMany_b0, hlt, ↓q1, q1, ↓q2, q2, ↓w1, w1, ↓w2, w2, ↓w3, w3, ↓bd, bd, ↓cv, cv, hg', ↓enterK_eq e2, enterK_eq e2, ↓hadd, hadd]
      exact ih
    · rw [if_neg hg] at e2 r2
      have hg' : (20000 : Int) < ((i + 1 : Nat) : Int) := by omega
      obtain ⟨m3, E3, H3, g1, g2, g3⟩ := l_many many v1 hm d (i + 1) m' E' H2 (by omega) ok2 r2
      refine ⟨m3, E3, H3, fun K => ?_, g2, g3⟩
      have ih := g1 K
      rw [r_law_ExpireMany_0]
      generalize ((i + 1 : Nat) : Int) = I at hlt q1 q2 w3 e2 hg' hadd ⊢
      generalize (((i + 1) / 65536 : Nat) : Int) = I1 at q1 w1
      generalize (((i + 1) / 256 : Nat) : Int) = I2 at q2 w2
      generalize (((i + 1) / 65536 % 256 : Nat) : Int) = J1 at w1 bd
      generalize (((i + 1) / 256 % 256 : Nat) : Int) = J2 at w2 bd
      generalize (((i + 1) % 256 : Nat) : Int) = J3 at w3 bd
      simp (disch := first | with_reducible rfl | assumption | omega | rfl | (simp only [go_sem]; first | done | omega)) only [go_sem, ↓reduceIte, reduceCtorEq, Nat.reduceEqDiff, Nat.reduceAdd, Nat.reduceSub, Nat.reduceMul, Nat.reduceDiv, Nat.reduceMod, Nat.reduceLeDiff, Nat.reduceLT, Nat.reduceBEq, Int.reduceEq, Int.reduceBEq, Int.reduceBNe, Int.reduceLT, Int.reduceLE, Int.reduceAdd, Int.reduceSub, Int.reduceNeg, Int.reduceToNat, Int.reducePow, Nat.reducePow, Int.reduceMul, Int.reduceDiv, ↓s_law_ExpireMany_b0, hlt, ↓q1, q1, ↓q2, q2, ↓w1, w1, ↓w2, w2, ↓w3, w3, ↓bd, bd, ↓cv, cv, hg', ↓enterK_eq e2, enterK_eq e2, ↓hadd, hadd]
      exact ih
end

/-- The empty store. -/
theorem r_empty {H : AHeap} {c : Nat} (hf : H.f c = .cells [.slice none 0 0, .map none, .int .i64 0] T.expire_Store true) (hc : c < H.n) : StR H c none [] [] 0 :=
  ⟨⟨.slice none 0 0, hf, hc, .inl ⟨rfl, rfl⟩, fun h => by cases h⟩, rfl, fun mb h => (by cases h), by simp, fun k => rfl, List.Pairwise.nil, by simp, fun x hx => by simp at hx, by decide, fun x hx => by simp at hx⟩

attribute [-go_sem] bldS
theorem q_ExpireMany (a b : Int) (H : AHeap) (ok : Ok H) : ∃ H', CC F.law_ExpireMany [.int .i64 a, .int .i64 b] H = some (.bool true, H') := by
  by_cases h1 : a < 19998
  · refine any_of (H1 := H) (d_law_ExpireMany _ _ H ?_)
    simp (disch := first | with_reducible rfl | assumption | omega | rfl | (simp only [go_sem]; first | done | omega)) only [go_sem, ↓reduceIte, reduceCtorEq, Nat.reduceEqDiff, Nat.reduceAdd, Nat.reduceSub, Nat.reduceMul, Nat.reduceDiv, Nat.reduceMod, Nat.reduceLeDiff, Nat.reduceLT, Nat.reduceBEq, Int.reduceEq, Int.reduceBEq, Int.reduceBNe, Int.reduceLT, Int.reduceLE, Int.reduceAdd, Int.reduceSub, Int.reduceNeg, Int.reduceToNat, Int.reducePow, Nat.reducePow, Int.reduceMul, Int.reduceDiv, ↓s_law_ExpireMany, h1, e_known]
  by_cases h2 : 20002 < a
  · refine any_of (H1 := H) (d_law_ExpireMany _ _ H ?_)
    simp (disch := first | with_reducible rfl | assumption | omega | rfl | (simp only [go_sem]; first | done | omega)) only [go_sem, ↓reduceIte, reduceCtorEq, Nat.reduceEqDiff, Nat.reduceAdd, Nat.reduceSub, Nat.reduceMul, Nat.reduceDiv, Nat.reduceMod, Nat.reduceLeDiff, Nat.reduceLT, Nat.reduceBEq, Int.reduceEq, Int.reduceBEq, Int.reduceBNe, Int.reduceLT, Int.reduceLE, Int.reduceAdd, Int.reduceSub, Int.reduceNeg, Int.reduceToNat, Int.reducePow, Nat.reducePow, Int.reduceMul, Int.reduceDiv, ↓s_law_ExpireMany, h1, h2, e_known]
  by_cases h3 : b < 0
  · refine any_of (H1 := H) (d_law_ExpireMany _ _ H ?_)
    simp (disch := first | with_reducible rfl | assumption | omega | rfl | (simp only [go_sem]; first | done | omega)) only [go_sem, ↓reduceIte, reduceCtorEq, Nat.reduceEqDiff, Nat.reduceAdd, Nat.reduceSub, Nat.reduceMul, Nat.reduceDiv, Nat.reduceMod, Nat.reduceLeDiff, Nat.reduceLT, Nat.reduceBEq, Int.reduceEq, Int.reduceBEq, Int.reduceBNe, Int.reduceLT, Int.reduceLE, Int.reduceAdd, Int.reduceSub, Int.reduceNeg, Int.reduceToNat, Int.reducePow, Nat.reducePow, Int.reduceMul, Int.reduceDiv, ↓s_law_ExpireMany, h1, h2, h3, e_known]
  by_cases h4 : 200 < b
  · refine any_of (H1 := H) (d_law_ExpireMany _ _ H ?_)
    simp (disch := first | with_reducible rfl | assumption | omega | rfl | (simp only [go_sem]; first | done | omega)) only [go_sem, ↓reduceIte, reduceCtorEq, Nat.reduceEqDiff, Nat.reduceAdd, Nat.reduceSub, Nat.reduceMul, Nat.reduceDiv, Nat.reduceMod, Nat.reduceLeDiff, Nat.reduceLT, Nat.reduceBEq, Int.reduceEq, Int.reduceBEq, Int.reduceBNe, Int.reduceLT, Int.reduceLE, Int.reduceAdd, Int.reduceSub, Int.reduceNeg, Int.reduceToNat, Int.reducePow, Nat.reducePow, Int.reduceMul, Int.reduceDiv, ↓s_law_ExpireMany, h1, h2, h3, h4, e_known]
  obtain ⟨many, rfl⟩ : ∃ k : Nat, a = (k : Int) := ⟨a.toNat, by omega⟩
  obtain ⟨tick, rfl⟩ : ∃ k : Nat, b = (k : Int) := ⟨b.toNat, by omega⟩
  obtain ⟨H1, hH1⟩ : ∃ H1, H.push (.cells [.slice none 0 0, .map none, .int .i64 0] T.expire_Store true) = H1 := ⟨_, rfl⟩
  have n1 : H1.n = H.n + 1 := by rw [← hH1]; rfl
  have s1 : Still H H1 := by rw [← hH1]; exact (Fr.refl H).push _
  have r0 : StR H1 H.n none [] (SM (min 0 20000)) 0 := r_empty (by rw [← hH1]; exact push_f_eq rfl) (by omega)
  obtain ⟨m2, E2, H2, g1, ok2, r2⟩ := l_many (c := H.n) many (.int .i64 (tick : Int)) (by omega) many 0 none [] H1 (by omega) (s1.ok ok) r0
  have g1 : ∀ K, l_law_ExpireMany_0 (.int .i64 (many : Int)) (.int .i64 (tick : Int)) (pt H.n) (.int .i64 1) H1 (blkK [0, 1, 5] 0 K) = K .normal [(0, .int .i64 (many : Int)), (1, .int .i64 (tick : Int)), (5, pt H.n)] H2 := g1
  obtain ⟨n, hn⟩ : ∃ n, min many 20000 = n := ⟨_, rfl⟩
  obtain ⟨gone, hgo⟩ : ∃ g, min n tick = g := ⟨_, rfl⟩
  rw [hn] at r2
  have mn1 : xbuiltin Try.prog .min [T.int, T.int] [.int .i64 (many : Int), .int .i64 20000] H2 = some (.val (.int .i64 (n : Int)) H2) := by
    have := minN (P := Try.prog) (H := H2) (ts := [T.int, T.int]) (q := .i64) (a := many) (b := 20000)
    rw [hn] at this
    exact this
  have mn2 : xbuiltin Try.prog .min [T.int, T.int] [.int .i64 (n : Int), .int .i64 (tick : Int)] H2 = some (.val (.int .i64 (gone : Int)) H2) := by
    have := minN (P := Try.prog) (H := H2) (ts := [T.int, T.int]) (q := .i64) (a := n) (b := tick)
    rw [hgo] at this
    exact this
  obtain ⟨m3, E3, H3, e3, r3, u3⟩ := q_xPass ok2 r2 (tick : Int)
  have hp : passX 0 (tick : Int) = (0, tick) := by
    unfold passX
    rw [if_neg (by omega), if_neg (by omega), Int.toNat_natCast]
  rw [hp] at e3 r3
  have e3 : CC F.expire_Store_Pass [pt H.n, .int .i64 (tick : Int)] H2 = some (.int .i64 0, H3) := e3
  have r3 : StR H3 H.n m3 E3 (SM n) tick := r3
  have ok3 := u3.fr.ok ok2
  have hw : (wS (SM n) tick).length = gone := by rw [wS_len, SM_due, hgo]
  have e4 := q_Waiting r3
  rw [hw] at e4
  have e5 := q_xLen r3
  rw [SM_len, hw] at e5
  have hsub : ((n - gone : Nat) : Int) = (n : Int) - (gone : Int) := by omega
  rw [hsub] at e5
  obtain ⟨v6, m6, E6, H6, e6, rd6, r6, u6, _⟩ := q_xSweep ok3 r3 30000
  have h30 : (30000 : Int).toNat = 30000 := by omega
  have ht : (wS (SM n) tick).take (30000 : Int).toNat = wS (SM n) tick := by
    rw [h30]
    exact List.take_of_length_le (by rw [hw]; omega)
  rw [if_neg (by decide), ht] at rd6 r6
  rw [if_neg (by decide)] at e6
  have hl6 := rd6.lenS
  rw [hw] at hl6
  have ok6 := u6.fr.ok ok3
  rw [sweep_all r3.srt] at r6
  have hw6 : wS ((SM n).filter fun x => !dueB tick x) tick = [] := wS_none fun x hx => by
    have := (List.mem_filter.1 hx).2
    simpa using this
  have hlen6 : ((SM n).filter fun x => !dueB tick x).length = n - gone := by
    have h := alive_len r3.srt tick
    rw [SM_len, hw] at h
    rw [← h]
    unfold aliveS pl
    rw [List.filter_map, List.length_map]
    congr 1
    refine List.filter_congr fun x hx => ?_
    show _ = (!endB (SM n) tick x.key)
    rw [endB_mem r3.srt hx]
  have e7 := q_Waiting r6
  rw [hw6] at e7
  have e7 : CC F.expire_Store_Waiting [pt H.n] H6 = some (.int .i64 0, H6) := e7
  have e8 := q_xLen r6
  rw [hw6, hlen6] at e8
  have e8 : CC F.expire_Store_Len [pt H.n] H6 = some (.int .i64 ((n : Int) - (gone : Int)), H6) := by rw [← hsub]; exact e8
  obtain ⟨v9, H9, e9, o9, s9, _⟩ := q_xAlive ok6 r6
  have hl9 := o9.rd.lenS
  rw [alive_len r6.srt, hw6, hlen6] at hl9
  have hl9 : lenS v9 = some (.int .i64 ((n : Int) - (gone : Int))) := by rw [← hsub]; exact hl9
  obtain ⟨D, hD⟩ : ∃ D, (n : Int) - (gone : Int) = D := ⟨_, rfl⟩
  have hs1 : ∀ ox oy, xbin Try.prog .sub T.int ox oy (.int .i64 (n : Int)) (.int .i64 (gone : Int)) = some (.int .i64 D) := fun ox oy => by rw [sub_i64 (by omega), hD]
  rw [hD] at e5 e8 hl9
  refine any_of (H1 := H9) (d_law_ExpireMany _ _ H ?_)
  simp (disch := first | with_reducible rfl | assumption | omega | rfl | (simp only [go_sem]; first | done | omega)) only [go_sem, ↓reduceIte, reduceCtorEq, Nat.reduceEqDiff, Nat.reduceAdd, Nat.reduceSub, Nat.reduceMul, Nat.reduceDiv, Nat.reduceMod, Nat.reduceLeDiff, Nat.reduceLT, Nat.reduceBEq, Int.reduceEq, Int.reduceBEq, Int.reduceBNe, Int.reduceLT, Int.reduceLE, Int.reduceAdd, Int.reduceSub, Int.reduceNeg, Int.reduceToNat, Int.reducePow, Nat.reducePow, Int.reduceMul, Int.reduceDiv, ↓s_law_ExpireMany, h1, h2, h3, h4, hH1, bldS_nil, g1, ↓mn1, mn1, ↓mn2, mn2, ↓enterK_eq e3, enterK_eq e3, ↓enterK_eq e4, enterK_eq e4, ↓enterK_eq e5, enterK_eq e5, ↓hs1, hs1, ↓enterK_eq e6, enterK_eq e6, hl6, ↓enterK_eq e7, enterK_eq e7, ↓enterK_eq e8, enterK_eq e8, ↓enterK_eq e9, enterK_eq e9, hl9, e_known]

theorem run_ExpireMany (a b : Int) (_ : (Lit.int .i64 a).wf = true) (_ : (Lit.int .i64 b).wf = true) : ∃ k H', dCall Try.prog prims1 hints k F.law_ExpireMany [.int .i64 a, .int .i64 b] H0 = some (.bool true, H') := by
  obtain ⟨H', h⟩ := q_ExpireMany a b H0 H0_ok
  obtain ⟨k, h⟩ := D_run h
  exact ⟨k, _, h⟩

end Go.Proofs.Ythjjkinpbpealaa

/-
  The seat's functions as terms over the engine's combinators (a program of ours printed it).
  Conditions: none. By an AI agent.
-/
set_option linter.unusedVariables false
namespace Go.Proofs.Ythjjkinpbpealaa
open Go Eng

/-! ticketline.ticketlinelaw45.ExpireHolds -/

noncomputable def s_law_ExpireHolds (mg : GT) (mc : CT) (ms : ST) (P : Program) (C : CallF) (L0 : Value → Value → Value → Value → Value → AHeap → K → Res) (L1 : Value → Value → Value → Value → Value → Value → Value → Value → Value → Value → Value → AHeap → K → Res) (L2 : Value → Value → Value → Value → Value → Value → Value → Value → Value → Value → AHeap → K → Res) (L3 : Value → Value → Value → Value → Value → Value → Value → Value → AHeap → K → Res) (L4 : Value → Value → Value → Value → Value → Value → AHeap → K → Res) (a0 : Value) (H : AHeap) (K0 : K) : Res :=
enterK C F.law_small [a0, (.int .i64 36)] H fun t25 h1 =>
bareK (xun P .not t25) h1 fun t26 h2 =>
mc t26 (fun k1 => enterK C F.law_known [] h2 fun t27 h3 =>
k1 .ret [(2, t27)] h3) (fun k1 =>
k1 .normal [(0, a0)] h2) (seqK (fun tT h4 =>
bareK (bldS #[(.slice none 0 0), (.map none), (.int .i64 0)] [(0, 1), (1, 1), (2, 1)] []) h4 fun t28 h5 =>
bothK (newv T.expire_Store t28 h5) fun t29 h6 =>
bothK (xmakeMap P T.map_string_bool none h6) fun t30 h7 =>
bothK (xmakeMap P T.map_string_int none h7) fun t31 h8 =>
ms (fun k2 =>
L0 (get tT 0) t29 t30 t31 (.int .i64 0) h8 (blkK [] 0 k2)) (seqK (fun tT_1 h9 =>
enterK C F.law_known [] h9 fun t221 h10 =>
K0 .ret [(2, t221)] h10) K0)) K0)

noncomputable def s_law_ExpireHolds_b0 (mg : GT) (mc : CT) (ms : ST) (P : Program) (C : CallF) (L0 : Value → Value → Value → Value → Value → AHeap → K → Res) (L1 : Value → Value → Value → Value → Value → Value → Value → Value → Value → Value → Value → AHeap → K → Res) (L2 : Value → Value → Value → Value → Value → Value → Value → Value → Value → Value → AHeap → K → Res) (L3 : Value → Value → Value → Value → Value → Value → Value → Value → AHeap → K → Res) (L4 : Value → Value → Value → Value → Value → Value → AHeap → K → Res) (v0 : Value) (v3 : Value) (v4 : Value) (v5 : Value) (v6 : Value) (H : AHeap) (k : K) : Res :=
bareK (lenS v0) H fun t34 h9 =>
bareK (xbin P .lss T.int (.tmp 32) (.tmp 34) v6 t34) h9 fun t35 h10 =>
mc t35 (fun k3 => k3 .normal [(0, v0), (3, v3), (4, v4), (5, v5), (6, v6)] h10) (fun k3 =>
k3 (.exit 0) [(35, t35), (34, t34), (33, v0), (32, v6), (0, v0), (3, v3), (4, v4), (5, v5), (6, v6)] h10) (seqK (fun tT h11 =>
ms (fun k4 =>
bareK (ixS 4 (get tT 0) (get tT 6)) h11 fun t40 h12 =>
bareK (ldN 4 h12 t40) h12 fun t41 h13 =>
bothK (newv T.law_Act (.agg #[(.int .i64 0), (.string (mk [])), (.string (mk [])), (.int .i64 0)]) h13) fun t7 h14 =>
quietK (stN 4 h14 t7 t41) fun _ h15 =>
enterK C F.expire_Store_Len [(get tT 3)] h15 fun t43 h16 =>
enterK C F.expire_Store_Alive [(get tT 3)] h16 fun t45 h17 =>
ms (fun k5 =>
bareK (fad 0 t7) h17 fun t47 h18 =>
bareK (ld1 h18 t47) h18 fun t48 h19 =>
bareK (xbin P .geq T.int (.tmp 48) (.const (.int .i64 0)) t48 (.int .i64 0)) h19 fun t49 h20 =>
mg t49 true (fun o6 => bareK (fad 0 t7) h20 o6) h20 fun t51 h21 =>
mg t49 true (fun o7 => bareK (ld1 h21 t51) h21 o7) h21 fun t52 h22 =>
mg t49 true (fun o8 => bareK (xbin P .leq T.int (.tmp 52) (.const (.int .i64 3)) t52 (.int .i64 3)) h22 o8) h22 fun t53 h23 =>
pickK t49 t53 (.bool false) fun t54 =>
mc t54 (fun k9 => bareK (ldN 4 h23 t7) h23 fun t56 h24 =>
enterK C F.law_calls [(get tT 3), t56] h24 fun t57 h25 =>
bareK (fad 0 t7) h25 fun t58 h26 =>
bareK (ld1 h26 t58) h26 fun t59 h27 =>
bareK (xbin P .eql T.int (.tmp 59) (.const (.int .i64 0)) t59 (.int .i64 0)) h27 fun t60 h28 =>
mg t60 true (fun o10 => o10 t57 h28) h28 fun t62 h29 =>
mg t60 true (fun o11 => bareK (xbin P .eql T.api_Errno (.tmp 62) (.const (.int .i64 0)) t62 (.int .i64 0)) h29 o11) h29 fun t63 h30 =>
pickK t60 t63 (.bool false) fun t64 =>
mc t64 (fun k12 => bareK (fad 1 t7) h30 fun t66 h31 =>
bareK (ld1 h31 t66) h31 fun t67 h32 =>
quietK (xmapUpdate P T.map_string_bool (get tT 4) t67 (.bool false) h32) fun _ h33 =>
k12 .normal [(0, (get tT 0)), (3, (get tT 3)), (4, (get tT 4)), (5, (get tT 5)), (6, (get tT 6)), (7, t7), (8, t43), (9, t45), (10, t57)] h33) (fun k12 =>
k12 .normal [(0, (get tT 0)), (3, (get tT 3)), (4, (get tT 4)), (5, (get tT 5)), (6, (get tT 6)), (7, t7), (8, t43), (9, t45), (10, t57)] h30) (seqK (fun tT_1 h34 =>
bareK (fad 0 (get tT_1 7)) h34 fun t68 h35 =>
bareK (ld1 h35 t68) h35 fun t69 h36 =>
bareK (xbin P .lss T.int (.tmp 69) (.const (.int .i64 2)) t69 (.int .i64 2)) h36 fun t70 h37 =>
mg t70 true (fun o13 => o13 (get tT_1 10) h37) h37 fun t72 h38 =>
mg t70 true (fun o14 => bareK (xbin P .eql T.api_Errno (.tmp 72) (.const (.int .i64 0)) t72 (.int .i64 0)) h38 o14) h38 fun t73 h39 =>
pickK t70 t73 (.bool false) fun t74 =>
mc t74 (fun k15 => bareK (fad 1 (get tT_1 7)) h39 fun t76 h40 =>
bareK (ld1 h40 t76) h40 fun t77 h41 =>
bareK (fad 3 (get tT_1 7)) h41 fun t78 h42 =>
bareK (ld1 h42 t78) h42 fun t79 h43 =>
quietK (xmapUpdate P T.map_string_int (get tT_1 5) t77 t79 h43) fun _ h44 =>
k15 .normal [(0, (get tT_1 0)), (3, (get tT_1 3)), (4, (get tT_1 4)), (5, (get tT_1 5)), (6, (get tT_1 6)), (7, (get tT_1 7)), (8, (get tT_1 8)), (9, (get tT_1 9))] h44) (fun k15 =>
k15 .normal [(0, (get tT_1 0)), (3, (get tT_1 3)), (4, (get tT_1 4)), (5, (get tT_1 5)), (6, (get tT_1 6)), (7, (get tT_1 7)), (8, (get tT_1 8)), (9, (get tT_1 9))] h39) (afterK [0, 3, 4, 5, 6, 7, 8, 9] k9)) (afterK [0, 3, 4, 5, 6, 7, 8, 9] k9))) (fun k9 =>
bareK (fad 0 t7) h23 fun t81 h45 =>
bareK (ld1 h45 t81) h45 fun t82 h46 =>
bareK (xbin P .eql T.int (.tmp 82) (.const (.int .i64 4)) t82 (.int .i64 4)) h46 fun t83 h47 =>
mc t83 (fun k16 => bareK (fad 3 t7) h47 fun t86 h48 =>
bareK (ld1 h48 t86) h48 fun t87 h49 =>
enterK C F.expire_Store_Sweep [(get tT 3), t87] h49 fun t88 h50 =>
bareK (xextract t88 0) h50 fun t89 h51 =>
bareK (xextract t88 1) h51 fun t90 h52 =>
enterK C F.expire_Store_Alive [(get tT 3)] h52 fun t92 h53 =>
bareK (xbin P .eql T.api_Errno (.tmp 93) (.const (.int .i64 0)) t90 (.int .i64 0)) h53 fun t94 h54 =>
bareK (fad 3 t7) h54 fun t95 h55 =>
bareK (ld1 h55 t95) h55 fun t96 h56 =>
bareK (xbin P .geq T.int (.tmp 96) (.const (.int .i64 1)) t96 (.int .i64 1)) h56 fun t97 h57 =>
bareK (xbin P .neq T.bool (.tmp 94) (.tmp 97) t94 t97) h57 fun t98 h58 =>
mg t98 false (fun o17 => o17 t92 h58) h58 fun t100 h59 =>
mg t98 false (fun o18 => bareK (lenS t100) h59 o18) h59 fun t101 h60 =>
mg t98 false (fun o19 => o19 t45 h60) h60 fun t102 h61 =>
mg t98 false (fun o20 => bareK (lenS t102) h61 o20) h61 fun t103 h62 =>
mg t98 false (fun o21 => bareK (xbin P .neq T.int (.tmp 101) (.tmp 103) t101 t103) h62 o21) h62 fun t104 h63 =>
pickK t98 (.bool true) t104 fun t105 =>
mg t105 false (fun o22 => o22 t90 h63) h63 fun t107 h64 =>
mg t105 false (fun o23 => bareK (xbin P .neq T.api_Errno (.tmp 107) (.const (.int .i64 0)) t107 (.int .i64 0)) h64 o23) h64 fun t108 h65 =>
mg t105 false (fun o24 => o24 t108 h65) h65 fun t109 h66 =>
mg t109 true (fun o25 => o25 t89 h66) h66 fun t110 h67 =>
mg t109 true (fun o26 => bareK (lenS t110) h67 o26) h67 fun t111 h68 =>
mg t109 true (fun o27 => bareK (xbin P .neq T.int (.tmp 111) (.const (.int .i64 0)) t111 (.int .i64 0)) h68 o27) h68 fun t112 h69 =>
mg t105 false (fun o28 => pickK t109 t112 (.bool false) fun v => o28 v h69) h69 fun t113 h70 =>
pickK t105 (.bool true) t113 fun t114 =>
mc t114 (fun k29 => k29 .ret [(2, (.bool false))] h70) (fun k29 =>
k29 .normal [(0, (get tT 0)), (3, (get tT 3)), (4, (get tT 4)), (5, (get tT 5)), (6, (get tT 6)), (7, t7), (8, t43), (9, t45), (11, t89), (13, t92)] h70) (seqK (fun tT_2 h71 =>
ms (fun k30 =>
L1 (get tT_2 0) (get tT_2 3) (get tT_2 4) (get tT_2 5) (get tT_2 6) (get tT_2 7) (get tT_2 8) (get tT_2 9) (get tT_2 11) (get tT_2 13) (.int .i64 0) h71 (blkK [0, 3, 4, 5, 6, 7, 8, 9, 11] 3 k30)) (seqK (fun tT_3 h72 =>
ms (fun k31 =>
L2 (get tT_3 0) (get tT_3 3) (get tT_3 4) (get tT_3 5) (get tT_3 6) (get tT_3 7) (get tT_3 8) (get tT_3 9) (get tT_3 11) (.int .i64 0) h72 (blkK [0, 3, 4, 5, 6, 7, 8, 9] 5 k31)) (afterK [0, 3, 4, 5, 6, 7, 8, 9] k16)) (afterK [0, 3, 4, 5, 6, 7, 8, 9] k16))) (afterK [0, 3, 4, 5, 6, 7, 8, 9] k16))) (fun k16 =>
k16 .normal [(0, (get tT 0)), (3, (get tT 3)), (4, (get tT 4)), (5, (get tT 5)), (6, (get tT 6)), (7, t7), (8, t43), (9, t45)] h47) (afterK [0, 3, 4, 5, 6, 7, 8, 9] k9)) (blkK [0, 3, 4, 5, 6, 7, 8, 9] 2 k5)) (seqK (fun tT_4 h73 =>
bareK (fad 0 (get tT_4 7)) h73 fun t154 h74 =>
bareK (ld1 h74 t154) h74 fun t155 h75 =>
bareK (xbin P .gtr T.int (.tmp 155) (.const (.int .i64 1)) t155 (.int .i64 1)) h75 fun t156 h76 =>
mg t156 true (fun o32 => o32 (get tT_4 3) h76) h76 fun t158 h77 =>
mg t156 true (fun o33 => enterK C F.expire_Store_Len [t158] h77 o33) h77 fun t159 h78 =>
mg t156 true (fun o34 => o34 (get tT_4 8) h78) h78 fun t160 h79 =>
mg t156 true (fun o35 => bareK (xbin P .gtr T.int (.tmp 159) (.tmp 160) t159 t160) h79 o35) h79 fun t161 h80 =>
pickK t156 t161 (.bool false) fun t162 =>
mc t162 (fun k36 => k36 .ret [(2, (.bool false))] h80) (fun k36 =>
k36 .normal [(0, (get tT_4 0)), (3, (get tT_4 3)), (4, (get tT_4 4)), (5, (get tT_4 5)), (6, (get tT_4 6)), (7, (get tT_4 7)), (9, (get tT_4 9))] h80) (seqK (fun tT_5 h81 =>
ms (fun k37 =>
L3 (get tT_5 0) (get tT_5 3) (get tT_5 4) (get tT_5 5) (get tT_5 6) (get tT_5 7) (get tT_5 9) (.int .i64 0) h81 (blkK [0, 3, 4, 5, 6] 7 k37)) (seqK (fun tT_6 h82 =>
ms (fun k38 =>
L4 (get tT_6 0) (get tT_6 3) (get tT_6 4) (get tT_6 5) (get tT_6 6) (.int .i64 0) h82 (blkK [0, 3, 4, 5, 6] 9 k38)) (blkK [0, 3, 4, 5, 6] 1 k4)) (blkK [0, 3, 4, 5, 6] 1 k4))) (blkK [0, 3, 4, 5, 6] 1 k4))) (blkK [0, 3, 4, 5, 6] 1 k4))) (seqK (fun tT_7 h83 =>
bareK (xbin P .add T.int (.tmp 36) (.const (.int .i64 1)) (get tT_7 6) (.int .i64 1)) h83 fun t37 h84 =>
k .normal [(0, (get tT_7 0)), (3, (get tT_7 3)), (4, (get tT_7 4)), (5, (get tT_7 5)), (6, t37)] h84) (afterK [0, 3, 4, 5, 6] k))) (afterK [0, 3, 4, 5, 6] k))

noncomputable def s_law_ExpireHolds_b1 (mg : GT) (mc : CT) (ms : ST) (P : Program) (C : CallF) (L0 : Value → Value → Value → Value → Value → AHeap → K → Res) (L1 : Value → Value → Value → Value → Value → Value → Value → Value → Value → Value → Value → AHeap → K → Res) (L2 : Value → Value → Value → Value → Value → Value → Value → Value → Value → Value → AHeap → K → Res) (L3 : Value → Value → Value → Value → Value → Value → Value → Value → AHeap → K → Res) (L4 : Value → Value → Value → Value → Value → Value → AHeap → K → Res) (v0 : Value) (v3 : Value) (v4 : Value) (v5 : Value) (v6 : Value) (v7 : Value) (v8 : Value) (v9 : Value) (v11 : Value) (v13 : Value) (v14 : Value) (H : AHeap) (k : K) : Res :=
bareK (lenS v13) H fun t117 h72 =>
bareK (xbin P .lss T.int (.tmp 115) (.tmp 117) v14 t117) h72 fun t118 h73 =>
mc t118 (fun k31 => k31 .normal [(0, v0), (3, v3), (4, v4), (5, v5), (6, v6), (7, v7), (8, v8), (9, v9), (11, v11), (13, v13), (14, v14)] h73) (fun k31 =>
k31 (.exit 3) [(118, t118), (117, t117), (116, v13), (115, v14), (0, v0), (3, v3), (4, v4), (5, v5), (6, v6), (7, v7), (8, v8), (9, v9), (11, v11), (13, v13), (14, v14)] h73) (seqK (fun tT h74 =>
ms (fun k32 =>
bareK (ixS 2 (get tT 13) (get tT 14)) h74 fun t123 h75 =>
bareK (ldN 2 h75 t123) h75 fun t124 h76 =>
bareK (ixS 2 (get tT 9) (get tT 14)) h76 fun t127 h77 =>
bareK (ldN 2 h77 t127) h77 fun t128 h78 =>
bareK (xbin P .neq T.api_Pair (.tmp 124) (.tmp 128) t124 t128) h78 fun t129 h79 =>
checkK true <|
mc t129 (fun k33 => k33 .ret [(2, (.bool false))] h79) (fun k33 =>
k33 .normal [(0, (get tT 0)), (3, (get tT 3)), (4, (get tT 4)), (5, (get tT 5)), (6, (get tT 6)), (7, (get tT 7)), (8, (get tT 8)), (9, (get tT 9)), (11, (get tT 11)), (13, (get tT 13)), (14, (get tT 14))] h79) (blkK [0, 3, 4, 5, 6, 7, 8, 9, 11, 13, 14] 4 k32)) (seqK (fun tT_1 h80 =>
bareK (xbin P .add T.int (.tmp 119) (.const (.int .i64 1)) (get tT_1 14) (.int .i64 1)) h80 fun t120 h81 =>
k .normal [(0, (get tT_1 0)), (3, (get tT_1 3)), (4, (get tT_1 4)), (5, (get tT_1 5)), (6, (get tT_1 6)), (7, (get tT_1 7)), (8, (get tT_1 8)), (9, (get tT_1 9)), (11, (get tT_1 11)), (13, (get tT_1 13)), (14, t120)] h81) (afterK [0, 3, 4, 5, 6, 7, 8, 9, 11, 13, 14] k))) (afterK [0, 3, 4, 5, 6, 7, 8, 9, 11, 13, 14] k))

noncomputable def s_law_ExpireHolds_b2 (mg : GT) (mc : CT) (ms : ST) (P : Program) (C : CallF) (L0 : Value → Value → Value → Value → Value → AHeap → K → Res) (L1 : Value → Value → Value → Value → Value → Value → Value → Value → Value → Value → Value → AHeap → K → Res) (L2 : Value → Value → Value → Value → Value → Value → Value → Value → Value → Value → AHeap → K → Res) (L3 : Value → Value → Value → Value → Value → Value → Value → Value → AHeap → K → Res) (L4 : Value → Value → Value → Value → Value → Value → AHeap → K → Res) (v0 : Value) (v3 : Value) (v4 : Value) (v5 : Value) (v6 : Value) (v7 : Value) (v8 : Value) (v9 : Value) (v11 : Value) (v15 : Value) (H : AHeap) (k : K) : Res :=
bareK (lenS v11) H fun t132 h73 =>
bareK (xbin P .lss T.int (.tmp 130) (.tmp 132) v15 t132) h73 fun t133 h74 =>
mc t133 (fun k32 => k32 .normal [(0, v0), (3, v3), (4, v4), (5, v5), (6, v6), (7, v7), (8, v8), (9, v9), (11, v11), (15, v15)] h74) (fun k32 =>
k32 (.exit 5) [(133, t133), (132, t132), (131, v11), (130, v15), (0, v0), (3, v3), (4, v4), (5, v5), (6, v6), (7, v7), (8, v8), (9, v9), (11, v11), (15, v15)] h74) (seqK (fun tT h75 =>
ms (fun k33 =>
bareK (ixS 1 (get tT 11) (get tT 15)) h75 fun t139 h76 =>
bareK (ld1 h76 t139) h76 fun t140 h77 =>
bareK (xlookup P T.map_string_int (get tT 5) t140 false h77) h77 fun t141 h78 =>
bareK (xbin P .lss T.int (.tmp 141) (.const (.int .i64 1)) t141 (.int .i64 1)) h78 fun t142 h79 =>
mg t142 false (fun o34 => o34 (get tT 5) h79) h79 fun t144 h80 =>
mg t142 false (fun o35 => o35 (get tT 11) h80) h80 fun t145 h81 =>
mg t142 false (fun o36 => o36 (get tT 15) h81) h81 fun t146 h82 =>
mg t142 false (fun o37 => bareK (ixS 1 t145 t146) h82 o37) h82 fun t147 h83 =>
mg t142 false (fun o38 => bareK (ld1 h83 t147) h83 o38) h83 fun t148 h84 =>
mg t142 false (fun o39 => bareK (xlookup P T.map_string_int t144 t148 false h84) h84 o39) h84 fun t149 h85 =>
mg t142 false (fun o40 => o40 (get tT 3) h85) h85 fun t150 h86 =>
mg t142 false (fun o41 => enterK C F.expire_Store_Now [t150] h86 o41) h86 fun t151 h87 =>
mg t142 false (fun o42 => bareK (xbin P .gtr T.int (.tmp 149) (.tmp 151) t149 t151) h87 o42) h87 fun t152 h88 =>
pickK t142 (.bool true) t152 fun t153 =>
checkK (okV (goesV t142 false) none h86 h87 h79 h80 && (okV (goesV t142 false) none h86 h87 h80 h81 && (okV (goesV t142 false) none h86 h87 h81 h82 && (okV (goesV t142 false) none h86 h87 h82 h83 && (okV (goesV t142 false) (blockOf t147) h86 h87 h83 h84 && (okV (goesV t142 false) (blockOf t144) h86 h87 h84 h85 && true)))))) <|
mc t153 (fun k43 => k43 .ret [(2, (.bool false))] h88) (fun k43 =>
k43 .normal [(0, (get tT 0)), (3, (get tT 3)), (4, (get tT 4)), (5, (get tT 5)), (6, (get tT 6)), (7, (get tT 7)), (8, (get tT 8)), (9, (get tT 9)), (11, (get tT 11)), (15, (get tT 15))] h88) (blkK [0, 3, 4, 5, 6, 7, 8, 9, 11, 15] 6 k33)) (seqK (fun tT_1 h89 =>
bareK (xbin P .add T.int (.tmp 134) (.const (.int .i64 1)) (get tT_1 15) (.int .i64 1)) h89 fun t135 h90 =>
k .normal [(0, (get tT_1 0)), (3, (get tT_1 3)), (4, (get tT_1 4)), (5, (get tT_1 5)), (6, (get tT_1 6)), (7, (get tT_1 7)), (8, (get tT_1 8)), (9, (get tT_1 9)), (11, (get tT_1 11)), (15, t135)] h90) (afterK [0, 3, 4, 5, 6, 7, 8, 9, 11, 15] k))) (afterK [0, 3, 4, 5, 6, 7, 8, 9, 11, 15] k))

noncomputable def s_law_ExpireHolds_b3 (mg : GT) (mc : CT) (ms : ST) (P : Program) (C : CallF) (L0 : Value → Value → Value → Value → Value → AHeap → K → Res) (L1 : Value → Value → Value → Value → Value → Value → Value → Value → Value → Value → Value → AHeap → K → Res) (L2 : Value → Value → Value → Value → Value → Value → Value → Value → Value → Value → AHeap → K → Res) (L3 : Value → Value → Value → Value → Value → Value → Value → Value → AHeap → K → Res) (L4 : Value → Value → Value → Value → Value → Value → AHeap → K → Res) (v0 : Value) (v3 : Value) (v4 : Value) (v5 : Value) (v6 : Value) (v7 : Value) (v9 : Value) (v16 : Value) (H : AHeap) (k : K) : Res :=
bareK (lenS v9) H fun t165 h82 =>
bareK (xbin P .lss T.int (.tmp 163) (.tmp 165) v16 t165) h82 fun t166 h83 =>
mc t166 (fun k38 => k38 .normal [(0, v0), (3, v3), (4, v4), (5, v5), (6, v6), (7, v7), (9, v9), (16, v16)] h83) (fun k38 =>
k38 (.exit 7) [(166, t166), (165, t165), (164, v9), (163, v16), (0, v0), (3, v3), (4, v4), (5, v5), (6, v6), (7, v7), (9, v9), (16, v16)] h83) (seqK (fun tT h84 =>
ms (fun k39 =>
bareK (ixS 2 (get tT 9) (get tT 16)) h84 fun t173 h85 =>
bareK (fad 0 t173) h85 fun t174 h86 =>
bareK (ld1 h86 t174) h86 fun t175 h87 =>
enterK C F.expire_Store_Get [(get tT 3), t175] h87 fun t176 h88 =>
bareK (xextract t176 0) h88 fun t177 h89 =>
bareK (xextract t176 1) h89 fun t178 h90 =>
bareK (xextract t176 2) h90 fun t179 h91 =>
bareK (xbin P .neq T.api_Errno (.tmp 180) (.const (.int .i64 0)) t179 (.int .i64 0)) h91 fun t181 h92 =>
mg t181 true (fun o40 => bareK (fad 0 (get tT 7)) h92 o40) h92 fun t183 h93 =>
mg t181 true (fun o41 => bareK (ld1 h93 t183) h93 o41) h93 fun t184 h94 =>
mg t181 true (fun o42 => bareK (xbin P .eql T.int (.tmp 184) (.const (.int .i64 3)) t184 (.int .i64 3)) h94 o42) h94 fun t185 h95 =>
pickK t181 t185 (.bool false) fun t186 =>
mc t186 (fun k43 => bareK (ixS 2 (get tT 9) (get tT 16)) h95 fun t190 h96 =>
bareK (fad 0 t190) h96 fun t191 h97 =>
bareK (ld1 h97 t191) h97 fun t192 h98 =>
quietK (xmapUpdate P T.map_string_bool (get tT 4) t192 (.bool true) h98) fun _ h99 =>
k43 .normal [(0, (get tT 0)), (3, (get tT 3)), (4, (get tT 4)), (5, (get tT 5)), (6, (get tT 6)), (7, (get tT 7)), (9, (get tT 9)), (16, (get tT 16))] h99) (fun k43 =>
k43 .normal [(0, (get tT 0)), (3, (get tT 3)), (4, (get tT 4)), (5, (get tT 5)), (6, (get tT 6)), (7, (get tT 7)), (9, (get tT 9)), (16, (get tT 16))] h95) (blkK [0, 3, 4, 5, 6, 7, 9, 16] 8 k39)) (seqK (fun tT_1 h100 =>
bareK (xbin P .add T.int (.tmp 167) (.const (.int .i64 1)) (get tT_1 16) (.int .i64 1)) h100 fun t168 h101 =>
k .normal [(0, (get tT_1 0)), (3, (get tT_1 3)), (4, (get tT_1 4)), (5, (get tT_1 5)), (6, (get tT_1 6)), (7, (get tT_1 7)), (9, (get tT_1 9)), (16, t168)] h101) (afterK [0, 3, 4, 5, 6, 7, 9, 16] k))) (afterK [0, 3, 4, 5, 6, 7, 9, 16] k))

noncomputable def s_law_ExpireHolds_b4 (mg : GT) (mc : CT) (ms : ST) (P : Program) (C : CallF) (L0 : Value → Value → Value → Value → Value → AHeap → K → Res) (L1 : Value → Value → Value → Value → Value → Value → Value → Value → Value → Value → Value → AHeap → K → Res) (L2 : Value → Value → Value → Value → Value → Value → Value → Value → Value → Value → AHeap → K → Res) (L3 : Value → Value → Value → Value → Value → Value → Value → Value → AHeap → K → Res) (L4 : Value → Value → Value → Value → Value → Value → AHeap → K → Res) (v0 : Value) (v3 : Value) (v4 : Value) (v5 : Value) (v6 : Value) (v20 : Value) (H : AHeap) (k : K) : Res :=
bareK (lenS v0) H fun t195 h83 =>
bareK (xbin P .lss T.int (.tmp 193) (.tmp 195) v20 t195) h83 fun t196 h84 =>
mc t196 (fun k39 => k39 .normal [(0, v0), (3, v3), (4, v4), (5, v5), (6, v6), (20, v20)] h84) (fun k39 =>
k39 (.exit 9) [(196, t196), (195, t195), (194, v0), (193, v20), (0, v0), (3, v3), (4, v4), (5, v5), (6, v6), (20, v20)] h84) (seqK (fun tT h85 =>
ms (fun k40 =>
bareK (ixS 4 (get tT 0) (get tT 20)) h85 fun t203 h86 =>
bareK (fad 1 t203) h86 fun t204 h87 =>
bareK (ld1 h87 t204) h87 fun t205 h88 =>
enterK C F.expire_Store_Get [(get tT 3), t205] h88 fun t206 h89 =>
bareK (xextract t206 0) h89 fun t207 h90 =>
bareK (xextract t206 1) h90 fun t208 h91 =>
bareK (xextract t206 2) h91 fun t209 h92 =>
bareK (xbin P .eql T.api_Errno (.tmp 210) (.const (.int .i64 0)) t209 (.int .i64 0)) h92 fun t211 h93 =>
mg t211 true (fun o41 => o41 (get tT 4) h93) h93 fun t213 h94 =>
mg t211 true (fun o42 => o42 (get tT 0) h94) h94 fun t214 h95 =>
mg t211 true (fun o43 => o43 (get tT 20) h95) h95 fun t215 h96 =>
mg t211 true (fun o44 => bareK (ixS 4 t214 t215) h96 o44) h96 fun t216 h97 =>
mg t211 true (fun o45 => bareK (fad 1 t216) h97 o45) h97 fun t217 h98 =>
mg t211 true (fun o46 => bareK (ld1 h98 t217) h98 o46) h98 fun t218 h99 =>
mg t211 true (fun o47 => bareK (xlookup P T.map_string_bool t213 t218 false h99) h99 o47) h99 fun t219 h100 =>
pickK t211 t219 (.bool false) fun t220 =>
mc t220 (fun k48 => k48 .ret [(2, (.bool false))] h100) (fun k48 =>
k48 .normal [(0, (get tT 0)), (3, (get tT 3)), (4, (get tT 4)), (5, (get tT 5)), (6, (get tT 6)), (20, (get tT 20))] h100) (blkK [0, 3, 4, 5, 6, 20] 10 k40)) (seqK (fun tT_1 h101 =>
bareK (xbin P .add T.int (.tmp 197) (.const (.int .i64 1)) (get tT_1 20) (.int .i64 1)) h101 fun t198 h102 =>
k .normal [(0, (get tT_1 0)), (3, (get tT_1 3)), (4, (get tT_1 4)), (5, (get tT_1 5)), (6, (get tT_1 6)), (20, t198)] h102) (afterK [0, 3, 4, 5, 6, 20] k))) (afterK [0, 3, 4, 5, 6, 20] k))

theorem s_law_ExpireHolds_eq (M : CombL) (C : CallF) (LP : LoopH) (a0 : Value) (H : AHeap) : dBodyL M Try.prog hints C LP F.law_ExpireHolds [a0] H = s_law_ExpireHolds M.b.g M.c M.s Try.prog C (fun v0 v3 v4 v5 v6 H k => loopL M Try.prog hints C LP F.law_ExpireHolds 0 [(0, v0), (3, v3), (4, v4), (5, v5), (6, v6)] H k) (fun v0 v3 v4 v5 v6 v7 v8 v9 v11 v13 v14 H k => loopL M Try.prog hints C LP F.law_ExpireHolds 1 [(0, v0), (3, v3), (4, v4), (5, v5), (6, v6), (7, v7), (8, v8), (9, v9), (11, v11), (13, v13), (14, v14)] H k) (fun v0 v3 v4 v5 v6 v7 v8 v9 v11 v15 H k => loopL M Try.prog hints C LP F.law_ExpireHolds 2 [(0, v0), (3, v3), (4, v4), (5, v5), (6, v6), (7, v7), (8, v8), (9, v9), (11, v11), (15, v15)] H k) (fun v0 v3 v4 v5 v6 v7 v9 v16 H k => loopL M Try.prog hints C LP F.law_ExpireHolds 3 [(0, v0), (3, v3), (4, v4), (5, v5), (6, v6), (7, v7), (9, v9), (16, v16)] H k) (fun v0 v3 v4 v5 v6 v20 H k => loopL M Try.prog hints C LP F.law_ExpireHolds 4 [(0, v0), (3, v3), (4, v4), (5, v5), (6, v6), (20, v20)] H k) a0 H (endK Try.prog [.tmp 2]) := by kernel_rfl

theorem s_law_ExpireHolds_b0_eq (M : CombL) (C : CallF) (LP : LoopH) (v0 : Value) (v3 : Value) (v4 : Value) (v5 : Value) (v6 : Value) (H : AHeap) (k : K) : bodyL M Try.prog hints C LP F.law_ExpireHolds 0 [(0, v0), (3, v3), (4, v4), (5, v5), (6, v6)] H (afterK [0, 3, 4, 5, 6] k) = s_law_ExpireHolds_b0 M.b.g M.c M.s Try.prog C (fun v0 v3 v4 v5 v6 H k => loopL M Try.prog hints C LP F.law_ExpireHolds 0 [(0, v0), (3, v3), (4, v4), (5, v5), (6, v6)] H k) (fun v0 v3 v4 v5 v6 v7 v8 v9 v11 v13 v14 H k => loopL M Try.prog hints C LP F.law_ExpireHolds 1 [(0, v0), (3, v3), (4, v4), (5, v5), (6, v6), (7, v7), (8, v8), (9, v9), (11, v11), (13, v13), (14, v14)] H k) (fun v0 v3 v4 v5 v6 v7 v8 v9 v11 v15 H k => loopL M Try.prog hints C LP F.law_ExpireHolds 2 [(0, v0), (3, v3), (4, v4), (5, v5), (6, v6), (7, v7), (8, v8), (9, v9), (11, v11), (15, v15)] H k) (fun v0 v3 v4 v5 v6 v7 v9 v16 H k => loopL M Try.prog hints C LP F.law_ExpireHolds 3 [(0, v0), (3, v3), (4, v4), (5, v5), (6, v6), (7, v7), (9, v9), (16, v16)] H k) (fun v0 v3 v4 v5 v6 v20 H k => loopL M Try.prog hints C LP F.law_ExpireHolds 4 [(0, v0), (3, v3), (4, v4), (5, v5), (6, v6), (20, v20)] H k) v0 v3 v4 v5 v6 H k := by kernel_rfl

theorem s_law_ExpireHolds_b1_eq (M : CombL) (C : CallF) (LP : LoopH) (v0 : Value) (v3 : Value) (v4 : Value) (v5 : Value) (v6 : Value) (v7 : Value) (v8 : Value) (v9 : Value) (v11 : Value) (v13 : Value) (v14 : Value) (H : AHeap) (k : K) : bodyL M Try.prog hints C LP F.law_ExpireHolds 1 [(0, v0), (3, v3), (4, v4), (5, v5), (6, v6), (7, v7), (8, v8), (9, v9), (11, v11), (13, v13), (14, v14)] H (afterK [0, 3, 4, 5, 6, 7, 8, 9, 11, 13, 14] k) = s_law_ExpireHolds_b1 M.b.g M.c M.s Try.prog C (fun v0 v3 v4 v5 v6 H k => loopL M Try.prog hints C LP F.law_ExpireHolds 0 [(0, v0), (3, v3), (4, v4), (5, v5), (6, v6)] H k) (fun v0 v3 v4 v5 v6 v7 v8 v9 v11 v13 v14 H k => loopL M Try.prog hints C LP F.law_ExpireHolds 1 [(0, v0), (3, v3), (4, v4), (5, v5), (6, v6), (7, v7), (8, v8), (9, v9), (11, v11), (13, v13), (14, v14)] H k) (fun v0 v3 v4 v5 v6 v7 v8 v9 v11 v15 H k => loopL M Try.prog hints C LP F.law_ExpireHolds 2 [(0, v0), (3, v3), (4, v4), (5, v5), (6, v6), (7, v7), (8, v8), (9, v9), (11, v11), (15, v15)] H k) (fun v0 v3 v4 v5 v6 v7 v9 v16 H k => loopL M Try.prog hints C LP F.law_ExpireHolds 3 [(0, v0), (3, v3), (4, v4), (5, v5), (6, v6), (7, v7), (9, v9), (16, v16)] H k) (fun v0 v3 v4 v5 v6 v20 H k => loopL M Try.prog hints C LP F.law_ExpireHolds 4 [(0, v0), (3, v3), (4, v4), (5, v5), (6, v6), (20, v20)] H k) v0 v3 v4 v5 v6 v7 v8 v9 v11 v13 v14 H k := by kernel_rfl

theorem s_law_ExpireHolds_b2_eq (M : CombL) (C : CallF) (LP : LoopH) (v0 : Value) (v3 : Value) (v4 : Value) (v5 : Value) (v6 : Value) (v7 : Value) (v8 : Value) (v9 : Value) (v11 : Value) (v15 : Value) (H : AHeap) (k : K) : bodyL M Try.prog hints C LP F.law_ExpireHolds 2 [(0, v0), (3, v3), (4, v4), (5, v5), (6, v6), (7, v7), (8, v8), (9, v9), (11, v11), (15, v15)] H (afterK [0, 3, 4, 5, 6, 7, 8, 9, 11, 15] k) = s_law_ExpireHolds_b2 M.b.g M.c M.s Try.prog C (fun v0 v3 v4 v5 v6 H k => loopL M Try.prog hints C LP F.law_ExpireHolds 0 [(0, v0), (3, v3), (4, v4), (5, v5), (6, v6)] H k) (fun v0 v3 v4 v5 v6 v7 v8 v9 v11 v13 v14 H k => loopL M Try.prog hints C LP F.law_ExpireHolds 1 [(0, v0), (3, v3), (4, v4), (5, v5), (6, v6), (7, v7), (8, v8), (9, v9), (11, v11), (13, v13), (14, v14)] H k) (fun v0 v3 v4 v5 v6 v7 v8 v9 v11 v15 H k => loopL M Try.prog hints C LP F.law_ExpireHolds 2 [(0, v0), (3, v3), (4, v4), (5, v5), (6, v6), (7, v7), (8, v8), (9, v9), (11, v11), (15, v15)] H k) (fun v0 v3 v4 v5 v6 v7 v9 v16 H k => loopL M Try.prog hints C LP F.law_ExpireHolds 3 [(0, v0), (3, v3), (4, v4), (5, v5), (6, v6), (7, v7), (9, v9), (16, v16)] H k) (fun v0 v3 v4 v5 v6 v20 H k => loopL M Try.prog hints C LP F.law_ExpireHolds 4 [(0, v0), (3, v3), (4, v4), (5, v5), (6, v6), (20, v20)] H k) v0 v3 v4 v5 v6 v7 v8 v9 v11 v15 H k := by kernel_rfl

theorem s_law_ExpireHolds_b3_eq (M : CombL) (C : CallF) (LP : LoopH) (v0 : Value) (v3 : Value) (v4 : Value) (v5 : Value) (v6 : Value) (v7 : Value) (v9 : Value) (v16 : Value) (H : AHeap) (k : K) : bodyL M Try.prog hints C LP F.law_ExpireHolds 3 [(0, v0), (3, v3), (4, v4), (5, v5), (6, v6), (7, v7), (9, v9), (16, v16)] H (afterK [0, 3, 4, 5, 6, 7, 9, 16] k) = s_law_ExpireHolds_b3 M.b.g M.c M.s Try.prog C (fun v0 v3 v4 v5 v6 H k => loopL M Try.prog hints C LP F.law_ExpireHolds 0 [(0, v0), (3, v3), (4, v4), (5, v5), (6, v6)] H k) (fun v0 v3 v4 v5 v6 v7 v8 v9 v11 v13 v14 H k => loopL M Try.prog hints C LP F.law_ExpireHolds 1 [(0, v0), (3, v3), (4, v4), (5, v5), (6, v6), (7, v7), (8, v8), (9, v9), (11, v11), (13, v13), (14, v14)] H k) (fun v0 v3 v4 v5 v6 v7 v8 v9 v11 v15 H k => loopL M Try.prog hints C LP F.law_ExpireHolds 2 [(0, v0), (3, v3), (4, v4), (5, v5), (6, v6), (7, v7), (8, v8), (9, v9), (11, v11), (15, v15)] H k) (fun v0 v3 v4 v5 v6 v7 v9 v16 H k => loopL M Try.prog hints C LP F.law_ExpireHolds 3 [(0, v0), (3, v3), (4, v4), (5, v5), (6, v6), (7, v7), (9, v9), (16, v16)] H k) (fun v0 v3 v4 v5 v6 v20 H k => loopL M Try.prog hints C LP F.law_ExpireHolds 4 [(0, v0), (3, v3), (4, v4), (5, v5), (6, v6), (20, v20)] H k) v0 v3 v4 v5 v6 v7 v9 v16 H k := by kernel_rfl

theorem s_law_ExpireHolds_b4_eq (M : CombL) (C : CallF) (LP : LoopH) (v0 : Value) (v3 : Value) (v4 : Value) (v5 : Value) (v6 : Value) (v20 : Value) (H : AHeap) (k : K) : bodyL M Try.prog hints C LP F.law_ExpireHolds 4 [(0, v0), (3, v3), (4, v4), (5, v5), (6, v6), (20, v20)] H (afterK [0, 3, 4, 5, 6, 20] k) = s_law_ExpireHolds_b4 M.b.g M.c M.s Try.prog C (fun v0 v3 v4 v5 v6 H k => loopL M Try.prog hints C LP F.law_ExpireHolds 0 [(0, v0), (3, v3), (4, v4), (5, v5), (6, v6)] H k) (fun v0 v3 v4 v5 v6 v7 v8 v9 v11 v13 v14 H k => loopL M Try.prog hints C LP F.law_ExpireHolds 1 [(0, v0), (3, v3), (4, v4), (5, v5), (6, v6), (7, v7), (8, v8), (9, v9), (11, v11), (13, v13), (14, v14)] H k) (fun v0 v3 v4 v5 v6 v7 v8 v9 v11 v15 H k => loopL M Try.prog hints C LP F.law_ExpireHolds 2 [(0, v0), (3, v3), (4, v4), (5, v5), (6, v6), (7, v7), (8, v8), (9, v9), (11, v11), (15, v15)] H k) (fun v0 v3 v4 v5 v6 v7 v9 v16 H k => loopL M Try.prog hints C LP F.law_ExpireHolds 3 [(0, v0), (3, v3), (4, v4), (5, v5), (6, v6), (7, v7), (9, v9), (16, v16)] H k) (fun v0 v3 v4 v5 v6 v20 H k => loopL M Try.prog hints C LP F.law_ExpireHolds 4 [(0, v0), (3, v3), (4, v4), (5, v5), (6, v6), (20, v20)] H k) v0 v3 v4 v5 v6 v20 H k := by kernel_rfl

end Go.Proofs.Ythjjkinpbpealaa

/-
  The equations of the seat's functions over calls in the limit (a program of ours printed it).
  Conditions: none. By an AI agent.
-/
set_option linter.unusedVariables false
namespace Go.Proofs.Ythjjkinpbpealaa
open Go Eng

theorem u_bool : Try.prog.underlying T.bool = Try.prog.underlying 4 := rfl
theorem u_map_string_bool : Try.prog.underlying T.map_string_bool = Try.prog.underlying 42 := rfl

noncomputable def l_law_ExpireHolds_0 (v0 : Value) (v3 : Value) (v4 : Value) (v5 : Value) (v6 : Value) (H : AHeap) (k : K) : Res := loopL stdL Try.prog hints CC limLP F.law_ExpireHolds 0 [(0, v0), (3, v3), (4, v4), (5, v5), (6, v6)] H k
noncomputable def l_law_ExpireHolds_1 (v0 : Value) (v3 : Value) (v4 : Value) (v5 : Value) (v6 : Value) (v7 : Value) (v8 : Value) (v9 : Value) (v11 : Value) (v13 : Value) (v14 : Value) (H : AHeap) (k : K) : Res := loopL stdL Try.prog hints CC limLP F.law_ExpireHolds 1 [(0, v0), (3, v3), (4, v4), (5, v5), (6, v6), (7, v7), (8, v8), (9, v9), (11, v11), (13, v13), (14, v14)] H k
noncomputable def l_law_ExpireHolds_2 (v0 : Value) (v3 : Value) (v4 : Value) (v5 : Value) (v6 : Value) (v7 : Value) (v8 : Value) (v9 : Value) (v11 : Value) (v15 : Value) (H : AHeap) (k : K) : Res := loopL stdL Try.prog hints CC limLP F.law_ExpireHolds 2 [(0, v0), (3, v3), (4, v4), (5, v5), (6, v6), (7, v7), (8, v8), (9, v9), (11, v11), (15, v15)] H k
noncomputable def l_law_ExpireHolds_3 (v0 : Value) (v3 : Value) (v4 : Value) (v5 : Value) (v6 : Value) (v7 : Value) (v9 : Value) (v16 : Value) (H : AHeap) (k : K) : Res := loopL stdL Try.prog hints CC limLP F.law_ExpireHolds 3 [(0, v0), (3, v3), (4, v4), (5, v5), (6, v6), (7, v7), (9, v9), (16, v16)] H k
noncomputable def l_law_ExpireHolds_4 (v0 : Value) (v3 : Value) (v4 : Value) (v5 : Value) (v6 : Value) (v20 : Value) (H : AHeap) (k : K) : Res := loopL stdL Try.prog hints CC limLP F.law_ExpireHolds 4 [(0, v0), (3, v3), (4, v4), (5, v5), (6, v6), (20, v20)] H k
theorem r_law_ExpireHolds_0 (v0 : Value) (v3 : Value) (v4 : Value) (v5 : Value) (v6 : Value) (H : AHeap) (k : K) : l_law_ExpireHolds_0 v0 v3 v4 v5 v6 H k = s_law_ExpireHolds_b0 guardK condL shareL Try.prog CC l_law_ExpireHolds_0 l_law_ExpireHolds_1 l_law_ExpireHolds_2 l_law_ExpireHolds_3 l_law_ExpireHolds_4 v0 v3 v4 v5 v6 H (seqK (fun T H => l_law_ExpireHolds_0 (get T 0) (get T 3) (get T 4) (get T 5) (get T 6) H k) k) := ((loopL_next (by kernel_rfl) rfl H k).trans (s_law_ExpireHolds_b0_eq stdL CC limLP v0 v3 v4 v5 v6 H _)).trans (by kernel_rfl)
theorem r_law_ExpireHolds_1 (v0 : Value) (v3 : Value) (v4 : Value) (v5 : Value) (v6 : Value) (v7 : Value) (v8 : Value) (v9 : Value) (v11 : Value) (v13 : Value) (v14 : Value) (H : AHeap) (k : K) : l_law_ExpireHolds_1 v0 v3 v4 v5 v6 v7 v8 v9 v11 v13 v14 H k = s_law_ExpireHolds_b1 guardK condL shareL Try.prog CC l_law_ExpireHolds_0 l_law_ExpireHolds_1 l_law_ExpireHolds_2 l_law_ExpireHolds_3 l_law_ExpireHolds_4 v0 v3 v4 v5 v6 v7 v8 v9 v11 v13 v14 H (seqK (fun T H => l_law_ExpireHolds_1 (get T 0) (get T 3) (get T 4) (get T 5) (get T 6) (get T 7) (get T 8) (get T 9) (get T 11) (get T 13) (get T 14) H k) k) := ((loopL_next (by kernel_rfl) rfl H k).trans (s_law_ExpireHolds_b1_eq stdL CC limLP v0 v3 v4 v5 v6 v7 v8 v9 v11 v13 v14 H _)).trans (by kernel_rfl)
theorem r_law_ExpireHolds_2 (v0 : Value) (v3 : Value) (v4 : Value) (v5 : Value) (v6 : Value) (v7 : Value) (v8 : Value) (v9 : Value) (v11 : Value) (v15 : Value) (H : AHeap) (k : K) : l_law_ExpireHolds_2 v0 v3 v4 v5 v6 v7 v8 v9 v11 v15 H k = s_law_ExpireHolds_b2 guardK condL shareL Try.prog CC l_law_ExpireHolds_0 l_law_ExpireHolds_1 l_law_ExpireHolds_2 l_law_ExpireHolds_3 l_law_ExpireHolds_4 v0 v3 v4 v5 v6 v7 v8 v9 v11 v15 H (seqK (fun T H => l_law_ExpireHolds_2 (get T 0) (get T 3) (get T 4) (get T 5) (get T 6) (get T 7) (get T 8) (get T 9) (get T 11) (get T 15) H k) k) := ((loopL_next (by kernel_rfl) rfl H k).trans (s_law_ExpireHolds_b2_eq stdL CC limLP v0 v3 v4 v5 v6 v7 v8 v9 v11 v15 H _)).trans (by kernel_rfl)
theorem r_law_ExpireHolds_3 (v0 : Value) (v3 : Value) (v4 : Value) (v5 : Value) (v6 : Value) (v7 : Value) (v9 : Value) (v16 : Value) (H : AHeap) (k : K) : l_law_ExpireHolds_3 v0 v3 v4 v5 v6 v7 v9 v16 H k = s_law_ExpireHolds_b3 guardK condL shareL Try.prog CC l_law_ExpireHolds_0 l_law_ExpireHolds_1 l_law_ExpireHolds_2 l_law_ExpireHolds_3 l_law_ExpireHolds_4 v0 v3 v4 v5 v6 v7 v9 v16 H (seqK (fun T H => l_law_ExpireHolds_3 (get T 0) (get T 3) (get T 4) (get T 5) (get T 6) (get T 7) (get T 9) (get T 16) H k) k) := ((loopL_next (by kernel_rfl) rfl H k).trans (s_law_ExpireHolds_b3_eq stdL CC limLP v0 v3 v4 v5 v6 v7 v9 v16 H _)).trans (by kernel_rfl)
theorem r_law_ExpireHolds_4 (v0 : Value) (v3 : Value) (v4 : Value) (v5 : Value) (v6 : Value) (v20 : Value) (H : AHeap) (k : K) : l_law_ExpireHolds_4 v0 v3 v4 v5 v6 v20 H k = s_law_ExpireHolds_b4 guardK condL shareL Try.prog CC l_law_ExpireHolds_0 l_law_ExpireHolds_1 l_law_ExpireHolds_2 l_law_ExpireHolds_3 l_law_ExpireHolds_4 v0 v3 v4 v5 v6 v20 H (seqK (fun T H => l_law_ExpireHolds_4 (get T 0) (get T 3) (get T 4) (get T 5) (get T 6) (get T 20) H k) k) := ((loopL_next (by kernel_rfl) rfl H k).trans (s_law_ExpireHolds_b4_eq stdL CC limLP v0 v3 v4 v5 v6 v20 H _)).trans (by kernel_rfl)
theorem d_law_ExpireHolds (a0 : Value) (H : AHeap) {r : Value × AHeap} (h : s_law_ExpireHolds guardK condL shareL Try.prog CC l_law_ExpireHolds_0 l_law_ExpireHolds_1 l_law_ExpireHolds_2 l_law_ExpireHolds_3 l_law_ExpireHolds_4 a0 H (endK Try.prog [.tmp 2]) = some r) : CC F.law_ExpireHolds [a0] H = some (tidy H r) := D_body (by kernel_rfl) ((s_law_ExpireHolds_eq stdL CC limLP a0 H).trans (Eq.trans (show s_law_ExpireHolds stdL.b.g stdL.c stdL.s Try.prog CC (fun v0 v3 v4 v5 v6 H k => loopL stdL Try.prog hints CC limLP F.law_ExpireHolds 0 [(0, v0), (3, v3), (4, v4), (5, v5), (6, v6)] H k) (fun v0 v3 v4 v5 v6 v7 v8 v9 v11 v13 v14 H k => loopL stdL Try.prog hints CC limLP F.law_ExpireHolds 1 [(0, v0), (3, v3), (4, v4), (5, v5), (6, v6), (7, v7), (8, v8), (9, v9), (11, v11), (13, v13), (14, v14)] H k) (fun v0 v3 v4 v5 v6 v7 v8 v9 v11 v15 H k => loopL stdL Try.prog hints CC limLP F.law_ExpireHolds 2 [(0, v0), (3, v3), (4, v4), (5, v5), (6, v6), (7, v7), (8, v8), (9, v9), (11, v11), (15, v15)] H k) (fun v0 v3 v4 v5 v6 v7 v9 v16 H k => loopL stdL Try.prog hints CC limLP F.law_ExpireHolds 3 [(0, v0), (3, v3), (4, v4), (5, v5), (6, v6), (7, v7), (9, v9), (16, v16)] H k) (fun v0 v3 v4 v5 v6 v20 H k => loopL stdL Try.prog hints CC limLP F.law_ExpireHolds 4 [(0, v0), (3, v3), (4, v4), (5, v5), (6, v6), (20, v20)] H k) a0 H (endK Try.prog [.tmp 2]) = s_law_ExpireHolds guardK condL shareL Try.prog CC l_law_ExpireHolds_0 l_law_ExpireHolds_1 l_law_ExpireHolds_2 l_law_ExpireHolds_3 l_law_ExpireHolds_4 a0 H (endK Try.prog [.tmp 2]) by kernel_rfl) h))

end Go.Proofs.Ythjjkinpbpealaa

/-
  Chapter 45: the law ExpireHolds: maps that are read as functions; a live store beside them; its calls.
  Conditions: none. By an AI agent.
-/
set_option maxRecDepth 10000
set_option linter.unusedSimpArgs false
set_option linter.unusedVariables false
namespace Go.Proofs.Ythjjkinpbpealaa
open Go Eng
attribute [local congr] bareK_congr' bothK_congr' quietK_congr'

/-! ### maps read as functions -/
section
variable {α : Type} {f : α → Value} {z : α} {H : AHeap} {b : Nat} {d : ByteArray → α} {t : TypeId}
def MV (f : α → Value) (z : α) (H : AHeap) (b : Nat) (d : ByteArray → α) : Prop :=
  b < H.n ∧ ∃ (ents : List (Value × Value)) (D : List (ByteArray × α)), H.f b = .map ents ∧ Ent (fun v a => v = f a) kStr.kv ents D ∧ ∀ k, (lkp D k).getD z = d k
def updF (d : ByteArray → α) (k : ByteArray) (a : α) (j : ByteArray) : α := if k = j then a else d j
theorem MV.look (m : MapT Try.prog kStr t (f z)) (h : MV f z H b d) (k : ByteArray) : xlookup Try.prog t (.map (some b)) (.string k) false H = some (f (d k)) := by
  obtain ⟨_, ents, D, h1, h2, h3⟩ := h
  rw [← h3 k]
  cases hk : lkp D k with
  | none => exact look_none m h1 h2 hk false
  | some a =>
    obtain ⟨v, hl, hv⟩ := look_some m h1 h2 hk false
    have hv : v = f a := hv
    subst hv
    exact hl
theorem MV.upd (m : MapT Try.prog kStr t (f z)) (h : MV f z H b d) (k : ByteArray) (a : α) : ∃ x, xmapUpdate Try.prog t (.map (some b)) (.string k) (f a) H = some (H.set b x) ∧ MV f z (H.set b x) b (updF d k a) := by
  obtain ⟨h0, ents, D, h1, h2, h3⟩ := h
  refine ⟨_, upd_map m h1 h2 k (f a), h0, _, Eng.putE D k a, set_f_eq, h2.put (R := fun v a => v = f a) (k := k) (a := a) rfl, fun j => ?_⟩
  unfold updF
  rw [lkp_put]
  split
  · rfl
  · exact h3 j
theorem MV.keep {X : Nat → Prop} {H' : AHeap} (h : MV f z H b d) (fr : Fr X H H') (hx : ¬ X b) : MV f z H' b d := by
  obtain ⟨h0, ents, D, h1, h2, h3⟩ := h
  have := fr.n
  exact ⟨by omega, ents, D, by rw [fr.f h0 hx]; exact h1, h2, h3⟩
theorem MV.make (H : AHeap) : MV f z (H.push (.map [])) H.n (fun _ => z) := ⟨Nat.lt_succ_self _, [], [], push_f_eq rfl, trivial, fun _ => rfl⟩
end
theorem mtB : MapT Try.prog kStr T.map_string_bool (.bool false) := ⟨_, _, Try.underlying42, by kernel_rfl, by kernel_rfl⟩

/-! ### the state of the law -/
structure UpH (c tb ub : Nat) (H H' : AHeap) : Prop where
  fr : Fr (fun b => OB H c b ∨ b = tb ∨ b = ub) H H'
  ob : ∀ b, OB H' c b → OB H c b ∨ H.n ≤ b
def Sep (c tb ub : Nat) (H : AHeap) (b : Nat) : Prop := b < H.n ∧ ¬ OB H c b ∧ b ≠ tb ∧ b ≠ ub
structure HI (c tb ub : Nat) (H : AHeap) (S : List En) (now : Nat) (d : ByteArray → Bool) (g : ByteArray → Int) : Prop where
  ok : Ok H
  st : ∃ m E, StR H c m E S now
  ed : MV Value.bool false H tb d
  en : MV (Value.int .i64) 0 H ub g
  ne : tb ≠ ub
  sd : ¬ OB H c tb
  su : ¬ OB H c ub

section
variable {c tb ub : Nat} {H H' H1 H2 : AHeap} {S S' : List En} {now now' : Nat} {d : ByteArray → Bool} {g : ByteArray → Int}
theorem HI.lt (h : HI c tb ub H S now d g) {b : Nat} (hb : OB H c b) : b < H.n := by
  obtain ⟨m, E, r⟩ := h.st
  exact r.lt hb
theorem HI.srt (h : HI c tb ub H S now d g) : Srt (pl S) := by
  obtain ⟨m, E, r⟩ := h.st
  exact r.srt
theorem HI.len (h : HI c tb ub H S now d g) : S.length ≤ 20000 := by
  obtain ⟨m, E, r⟩ := h.st
  exact r.len
theorem UpH.trans (hc : ∀ b, OB H c b → b < H.n) (a : UpH c tb ub H H1) (b : UpH c tb ub H1 H2) : UpH c tb ub H H2 := by
  have n1 := a.fr.n
  refine ⟨a.fr.then b.fr fun x hx h => ?_, fun x h => ?_⟩
  · rcases h with h | h
    · rcases a.ob x h with h | h
      · exact .inl h
      · omega
    · exact .inr h
  · rcases b.ob x h with h | h
    · exact a.ob x h
    · exact .inr (by omega)
theorem UpH.refl (c tb ub : Nat) (H : AHeap) : UpH c tb ub H H := ⟨Fr.refl H, fun _ h => .inl h⟩
theorem Sep.up {b : Nat} (h : Sep c tb ub H b) (u : UpH c tb ub H H') : Sep c tb ub H' b := by
  obtain ⟨h1, h2, h3, h4⟩ := h
  have := u.fr.n
  exact ⟨by omega, fun hh => by
    rcases u.ob b hh with hh | hh
    · exact h2 hh
    · omega, h3, h4⟩
theorem Sep.f {b : Nat} (h : Sep c tb ub H b) (u : UpH c tb ub H H') : H'.f b = H.f b := u.fr.f h.1 fun hh => by
  obtain ⟨h1, h2, h3, h4⟩ := h
  rcases hh with hh | hh | hh
  · exact h2 hh
  · exact h3 hh
  · exact h4 hh
theorem Sep.rd {α : Type} {E : Enc α} {v : Value} {l : List α} (h : ∀ b, blockOf v = some b → Sep c tb ub H b) (u : UpH c tb ub H H') (r : Rd E H v l) : Rd E H' v l := r.keep u.fr fun b hb hh => by
  obtain ⟨h1, h2, h3, h4⟩ := h b hb
  rcases hh with hh | hh | hh
  · exact h2 hh
  · exact h3 hh
  · exact h4 hh
theorem HI.still (h : HI c tb ub H S now d g) (s : Still H H') : HI c tb ub H' S now d g ∧ UpH c tb ub H H' := by
  obtain ⟨m, E, r⟩ := h.st
  have hc : c < H.n := r.lt (.inl rfl)
  have ho : ∀ b, OB H' c b ↔ OB H c b := fun b => ob_still hc s fun h => h
  exact ⟨⟨s.ok h.ok, ⟨m, E, r.still s⟩, h.ed.keep s fun h => h, h.en.keep s fun h => h, h.ne, fun hh => h.sd ((ho _).1 hh), fun hh => h.su ((ho _).1 hh)⟩, s.still, fun b hb => .inl ((ho b).1 hb)⟩
theorem HI.new (h : HI c tb ub H S now d g) (s : Still H H') {b : Nat} (h1 : H.n ≤ b) (h2 : b < H'.n) : Sep c tb ub H' b := by
  obtain ⟨m, E, r⟩ := h.st
  have hc : c < H.n := r.lt (.inl rfl)
  have := h.ed.1
  have := h.en.1
  exact ⟨h2, fun hh => by
    have := r.lt ((ob_still hc s fun h => h).1 hh)
    omega, by omega, by omega⟩
theorem HI.up (h : HI c tb ub H S now d g) (u : UpX H c H') {m' : Option Nat} {E' : Ec} (r' : StR H' c m' E' S' now') : HI c tb ub H' S' now' d g ∧ UpH c tb ub H H' := by
  have h1 := h.ed.1
  have h2 := h.en.1
  exact ⟨⟨u.fr.ok h.ok, ⟨m', E', r'⟩, h.ed.keep u.fr h.sd, h.en.keep u.fr h.su, h.ne, fun hh => (u.ob _ hh).elim h.sd fun e => by omega, fun hh => (u.ob _ hh).elim h.su fun e => by omega⟩, u.fr.mono fun b _ hb => .inl hb, u.ob⟩
theorem HI.setD (h : HI c tb ub H S now d g) (k : ByteArray) (a : Bool) : ∃ H', xmapUpdate Try.prog T.map_string_bool (.map (some tb)) (.string k) (.bool a) H = some H' ∧ HI c tb ub H' S now (updF d k a) g ∧ UpH c tb ub H H' := by
  obtain ⟨x, e, mv⟩ := h.ed.upd mtB k a
  obtain ⟨m, E, r⟩ := h.st
  have hc : c < H.n := r.lt (.inl rfl)
  have fr : Fr (fun b => b = tb) H (H.set tb x) := (Fr.refl H).set _ _ fun _ => rfl
  have hct : ¬ c = tb := fun e => h.sd (e ▸ .inl rfl)
  have ho : ∀ b, OB (H.set tb x) c b ↔ OB H c b := fun b => ob_still hc fr hct
  exact ⟨_, e, ⟨fr.ok h.ok, ⟨m, E, r.keep fr fun b _ e hh => h.sd (e ▸ hh)⟩, mv, h.en.keep fr fun e => h.ne e.symm, h.ne, fun hh => h.sd ((ho _).1 hh), fun hh => h.su ((ho _).1 hh)⟩, fr.mono fun b _ e => .inr (.inl e), fun b hb => .inl ((ho b).1 hb)⟩
theorem HI.setG (h : HI c tb ub H S now d g) (k : ByteArray) (a : Int) : ∃ H', xmapUpdate Try.prog T.map_string_int (.map (some ub)) (.string k) (.int .i64 a) H = some H' ∧ HI c tb ub H' S now d (updF g k a) ∧ UpH c tb ub H H' := by
  obtain ⟨x, e, mv⟩ := h.en.upd mt k a
  obtain ⟨m, E, r⟩ := h.st
  have hc : c < H.n := r.lt (.inl rfl)
  have fr : Fr (fun b => b = ub) H (H.set ub x) := (Fr.refl H).set _ _ fun _ => rfl
  have hct : ¬ c = ub := fun e => h.su (e ▸ .inl rfl)
  have ho : ∀ b, OB (H.set ub x) c b ↔ OB H c b := fun b => ob_still hc fr hct
  exact ⟨_, e, ⟨fr.ok h.ok, ⟨m, E, r.keep fr fun b _ e hh => h.su (e ▸ hh)⟩, h.ed.keep fr fun e => h.ne e, mv, h.ne, fun hh => h.sd ((ho _).1 hh), fun hh => h.su ((ho _).1 hh)⟩, fr.mono fun b _ e => .inr (.inr e), fun b hb => .inl ((ho b).1 hb)⟩

/-! ### calls -/
def actX (S : List En) (now : Nat) (a : Act) : Int × List En × Nat :=
  if a.what = 0 then ((putX S now a.key a.val a.n).1, (putX S now a.key a.val a.n).2, now)
  else if a.what = 1 then ((extX S now a.key a.n).1, (extX S now a.key a.n).2, now)
  else if a.what = 2 then ((delX S now a.key).1, (delX S now a.key).2, now)
  else ((passX now a.n).1, S, (passX now a.n).2)

theorem q_callsX (h : HI c tb ub H S now d g) (a : Act) : ∃ H', CC F.law_calls [pt c, .agg ⟨EAct.enc a⟩] H = some (.int .i64 (actX S now a).1, H') ∧ HI c tb ub H' (actX S now a).2.1 (actX S now a).2.2 d g ∧ UpH c tb ub H H' := by
  obtain ⟨H1, hH1⟩ : ∃ H1, H.push (.cells (EAct.enc a) T.law_Act true) = H1 := ⟨_, rfl⟩
  have f1 : H1.f H.n = .cells [.int .i64 a.what, .string a.key, .string a.val, .int .i64 a.n] T.law_Act true := by rw [← hH1]; exact push_f_eq rfl
  have nw : newv T.law_Act (.agg ⟨EAct.enc a⟩) H = some (.pointer (some ⟨H.n, 0, none⟩), H1) := by rw [← hH1]; rfl
  have st : Still H H1 := by rw [← hH1]; exact (Fr.refl H).push _
  obtain ⟨m, E, r⟩ := h.st
  have hc : c < H.n := r.lt (.inl rfl)
  have r1 := r.still st
  have ok1 := st.ok h.ok
  have n1 := st.n
  have fin : ∀ {e : Int} {S' : List En} {now' : Nat} {m' : Option Nat} {E' : Ec} {H2 : AHeap}, StR H2 c m' E' S' now' → UpX H1 c H2 → s_law_calls guardK condL shareL Try.prog CC (pt c) (.agg ⟨EAct.enc a⟩) H (endK Try.prog [.tmp 4]) = some (.int .i64 e, H2) →
      ∃ H', CC F.law_calls [pt c, .agg ⟨EAct.enc a⟩] H = some (.int .i64 e, H') ∧ HI c tb ub H' S' now' d g ∧ UpH c tb ub H H' := fun {e S' now' m' E' H2} r2 u2 run => by
    have u : UpX H c H2 := ⟨st.still.then u2.fr fun b _ hb => (ob_still hc st fun h => h).1 hb, fun b hb => by
      rcases u2.ob b hb with hb | hb
      · exact .inl ((ob_still hc st fun h => h).1 hb)
      · exact .inr (by omega)⟩
    obtain ⟨m3, E3, H3, ht, r3, u3⟩ := tidyX (v := .int .i64 e) h.ok r r2 u
    obtain ⟨a1, a2⟩ := h.up u3 r3
    exact ⟨H3, (d_law_calls _ _ H run).trans (congrArg some ht), a1, a2⟩
  unfold actX
  by_cases h0 : a.what = 0
  · obtain ⟨m', E', H2, e1, r2, u2⟩ := q_xPut ok1 r1 a.key a.val a.n
    rw [if_pos h0]
    refine fin r2 u2 ?_
    simp (disch := first | with_reducible rfl | assumption | omega | rfl | (simp only [go_sem]; first | done | omega)) only [go_sem, ↓reduceIte, reduceCtorEq, Nat.reduceEqDiff, Nat.reduceAdd, Nat.reduceSub, Nat.reduceMul, Nat.reduceDiv, Nat.reduceMod, Nat.reduceLeDiff, Nat.reduceLT, Nat.reduceBEq, Int.reduceEq, Int.reduceBEq, Int.reduceBNe, Int.reduceLT, Int.reduceLE, Int.reduceAdd, Int.reduceSub, Int.reduceNeg, Int.reduceToNat, Int.reducePow, Nat.reducePow, Int.reduceMul, Int.reduceDiv, ↓s_law_calls, nw, f1, h0, ↓enterK_eq e1, enterK_eq e1]
  · rw [if_neg h0]
    by_cases h1 : a.what = 1
    · obtain ⟨m', E', H2, e1, r2, u2⟩ := q_xExtend ok1 r1 a.key a.n
      rw [if_pos h1]
      refine fin r2 u2 ?_
      simp (disch := first | with_reducible rfl | assumption | omega | rfl | (simp only [go_sem]; first | done | omega)) only [go_sem, ↓reduceIte, reduceCtorEq, Nat.reduceEqDiff, Nat.reduceAdd, Nat.reduceSub, Nat.reduceMul, Nat.reduceDiv, Nat.reduceMod, Nat.reduceLeDiff, Nat.reduceLT, Nat.reduceBEq, Int.reduceEq, Int.reduceBEq, Int.reduceBNe, Int.reduceLT, Int.reduceLE, Int.reduceAdd, Int.reduceSub, Int.reduceNeg, Int.reduceToNat, Int.reducePow, Nat.reducePow, Int.reduceMul, Int.reduceDiv, ↓s_law_calls, nw, f1, h0, h1, ↓enterK_eq e1, enterK_eq e1]
    · rw [if_neg h1]
      by_cases h2 : a.what = 2
      · obtain ⟨m', E', H2, e1, r2, u2⟩ := q_xDelete ok1 r1 a.key
        rw [if_pos h2]
        refine fin r2 u2 ?_
        simp (disch := first | with_reducible rfl | assumption | omega | rfl | (simp only [go_sem]; first | done | omega)) only [go_sem, ↓reduceIte, reduceCtorEq, Nat.reduceEqDiff, Nat.reduceAdd, Nat.reduceSub, Nat.reduceMul, Nat.reduceDiv, Nat.reduceMod, Nat.reduceLeDiff, Nat.reduceLT, Nat.reduceBEq, Int.reduceEq, Int.reduceBEq, Int.reduceBNe, Int.reduceLT, Int.reduceLE, Int.reduceAdd, Int.reduceSub, Int.reduceNeg, Int.reduceToNat, Int.reducePow, Nat.reducePow, Int.reduceMul, Int.reduceDiv, ↓s_law_calls, nw, f1, h0, h1, h2, ↓enterK_eq e1, enterK_eq e1]
      · rw [if_neg h2]
        obtain ⟨m', E', H2, e1, r2, u2⟩ := q_xPass ok1 r1 a.n
        refine fin r2 u2 ?_
        simp (disch := first | with_reducible rfl | assumption | omega | rfl | (simp only [go_sem]; first | done | omega)) only [go_sem, ↓reduceIte, reduceCtorEq, Nat.reduceEqDiff, Nat.reduceAdd, Nat.reduceSub, Nat.reduceMul, Nat.reduceDiv, Nat.reduceMod, Nat.reduceLeDiff, Nat.reduceLT, Nat.reduceBEq, Int.reduceEq, Int.reduceBEq, Int.reduceBNe, Int.reduceLT, Int.reduceLE, Int.reduceAdd, Int.reduceSub, Int.reduceNeg, Int.reduceToNat, Int.reducePow, Nat.reducePow, Int.reduceMul, Int.reduceDiv, ↓s_law_calls, nw, f1, h0, h1, h2, ↓enterK_eq e1, enterK_eq e1]
end

/-! ### what a call keeps -/
structure PI (S : List En) (now : Nat) (d : ByteArray → Bool) (g : ByteArray → Int) : Prop where
  en : ∀ x ∈ S, g x.key = (x.e : Int)
  ed : ∀ k, d k = true → (getX S now k).2.2 ≠ 0

section
variable {S S' : List En} {now now' : Nat} {d : ByteArray → Bool} {g : ByteArray → Int}
theorem getX_zero {k : ByteArray} {x : En} (hc : chk k [] = 0) (hg : getS S k = some x) (hb : endB S now k = false) : (getX S now k).2.2 = 0 := by
  unfold getX
  rw [if_neg (fun e => e hc), hg]
  show (if endB S now k = true then ((mk [], 0, 9) : ByteArray × Nat × Int) else (x.val, x.e, 0)).2.2 = 0
  rw [hb]
  rfl
theorem getX_sub {k : ByteArray} (hs : ∀ x, getS S' k = some x → getS S k = some x) (hn : now ≤ now') (h : (getX S' now' k).2.2 = 0) : (getX S now k).2.2 = 0 := by
  obtain ⟨h1, h2, x, h3, _⟩ := getX_ok h
  have h4 := hs x h3
  refine getX_zero h1 h4 ?_
  unfold endB at h2 ⊢
  rw [endOf_get, h3] at h2
  rw [endOf_get, h4]
  have h2 : (decide (0 < x.e) && decide (x.e ≤ now')) = false := h2
  show (decide (0 < x.e) && decide (x.e ≤ now)) = false
  simp only [Bool.and_eq_false_iff, decide_eq_false_iff_not] at h2 ⊢
  omega
theorem PI.sub (p : PI S now d g) (hm : ∀ x ∈ S', x ∈ S) (hs : Srt (pl S)) (hn : now ≤ now') : PI S' now' d g :=
  ⟨fun x hx => p.en x (hm x hx), fun k hk h => p.ed k hk (getX_sub (fun x hx => by
    obtain ⟨h1, h2⟩ := getS_key hx
    rw [← h1]
    exact getS_mem hs (hm x h2)) hn h)⟩
theorem PI.ins (p : PI S now d g) (hs : Srt (pl S)) {x : En} (hs' : Srt (pl (insR S x))) {n : Int} (hn : n = (x.e : Int)) {d' : ByteArray → Bool} (hd : ∀ k, d' k = true → d k = true ∧ ¬ x.key = k) : PI (insR S x) now d' (updF g x.key n) := by
  refine ⟨fun z hz => ?_, fun k hk h => ?_⟩
  · have h1 := getS_mem hs' hz
    rw [ins_get hs] at h1
    unfold updF
    by_cases e : x.key = z.key
    · rw [if_pos e] at h1 ⊢
      cases h1
      exact hn
    · rw [if_neg e] at h1 ⊢
      exact p.en z (getS_key h1).2
  · obtain ⟨h1, h2⟩ := hd k hk
    refine p.ed k h1 ?_
    have : getX (insR S x) now k = getX S now k := by
      unfold getX endB
      rw [ins_get hs, ins_end hs, if_neg h2, if_neg h2]
    rw [this] at h
    exact h

theorem putX_ne {k v : ByteArray} {n : Int} (h : (putX S now k v n).1 ≠ 0) : (putX S now k v n).2 = S := by
  unfold putX at h ⊢
  by_cases h1 : n < 0 ∨ 1099511627776 < n
  · rw [if_pos h1]
  by_cases h2 : chk k [v] ≠ 0
  · rw [if_neg h1, if_pos h2]
  by_cases h3 : 0 < n ∧ n ≤ now
  · rw [if_neg h1, if_neg h2, if_pos h3]
  by_cases h4 : (getS S k).isNone ∧ S.length = 20000
  · rw [if_neg h1, if_neg h2, if_neg h3, if_pos h4]
  rw [if_neg h1, if_neg h2, if_neg h3, if_neg h4] at h
  exact absurd rfl h
theorem putX_ok {k v : ByteArray} {n : Int} (h : (putX S now k v n).1 = 0) : 0 ≤ n ∧ (putX S now k v n).2 = insR S ⟨k, v, n.toNat⟩ := by
  unfold putX at h ⊢
  by_cases h1 : n < 0 ∨ 1099511627776 < n
  · rw [if_pos h1] at h; cases h
  by_cases h2 : chk k [v] ≠ 0
  · rw [if_neg h1, if_pos h2] at h; exact absurd h h2
  by_cases h3 : 0 < n ∧ n ≤ now
  · rw [if_neg h1, if_neg h2, if_pos h3] at h; cases h
  by_cases h4 : (getS S k).isNone ∧ S.length = 20000
  · rw [if_neg h1, if_neg h2, if_neg h3, if_pos h4] at h; cases h
  rw [if_neg h1, if_neg h2, if_neg h3, if_neg h4]
  exact ⟨by omega, rfl⟩
theorem extX_ne {k : ByteArray} {n : Int} (h : (extX S now k n).1 ≠ 0) : (extX S now k n).2 = S := by
  unfold extX at h ⊢
  by_cases h1 : n < 0 ∨ 1099511627776 < n
  · rw [if_pos h1]
  by_cases h2 : chk k [] ≠ 0
  · rw [if_neg h1, if_pos h2]
  by_cases h3 : 0 < n ∧ n ≤ now
  · rw [if_neg h1, if_neg h2, if_pos h3]
  by_cases h4 : endB S now k = true
  · rw [if_neg h1, if_neg h2, if_neg h3, if_pos h4]
  rw [if_neg h1, if_neg h2, if_neg h3, if_neg h4] at h ⊢
  cases hg : getS S k with
  | none => rfl
  | some x => rw [hg] at h; exact absurd rfl h
theorem extX_ok {k : ByteArray} {n : Int} (h : (extX S now k n).1 = 0) : 0 ≤ n ∧ ∃ x, (extX S now k n).2 = insR S ⟨k, x, n.toNat⟩ ∧ (getX S now k).2.2 = 0 := by
  unfold extX at h ⊢
  by_cases h1 : n < 0 ∨ 1099511627776 < n
  · rw [if_pos h1] at h; cases h
  by_cases h2 : chk k [] ≠ 0
  · rw [if_neg h1, if_pos h2] at h; exact absurd h h2
  by_cases h3 : 0 < n ∧ n ≤ now
  · rw [if_neg h1, if_neg h2, if_pos h3] at h; cases h
  by_cases h4 : endB S now k = true
  · rw [if_neg h1, if_neg h2, if_neg h3, if_pos h4] at h; cases h
  rw [if_neg h1, if_neg h2, if_neg h3, if_neg h4] at h ⊢
  cases hg : getS S k with
  | none => rw [hg] at h; cases h
  | some x => exact ⟨by omega, x.val, rfl, getX_zero (by simpa using h2) hg (by simpa using h4)⟩

theorem alive_eq (hs : Srt (pl S)) (now : Nat) : aliveS S now = pl (S.filter fun x => !dueB now x) := by
  unfold aliveS pl
  rw [List.filter_map]
  congr 1
  refine List.filter_congr fun x hx => ?_
  show (!endB S now x.key) = _
  rw [endB_mem hs hx]
theorem alive_filter (hs : Srt (pl S)) (p : En → Bool) (hp : Srt (pl (S.filter p))) (hn : now ≤ now') : (aliveS (S.filter p) now').length ≤ (aliveS S now).length := by
  rw [alive_eq hs, alive_eq hp]
  unfold pl
  rw [List.length_map, List.length_map, List.filter_filter]
  have e : S.filter (fun x => !dueB now' x && p x) = (S.filter fun x => !dueB now x).filter (fun x => !dueB now' x && p x) := by
    rw [List.filter_filter]
    refine List.filter_congr fun x _ => ?_
    unfold dueB
    by_cases h1 : 0 < x.e
    · by_cases h2 : x.e ≤ now'
      · simp [h1, h2]
      · have h3 : ¬ x.e ≤ now := by omega
        simp [h1, h2, h3]
    · simp [h1]
  rw [e]
  exact List.length_filter_le _ _
theorem alive_sweep (hs : Srt (pl S)) (n : Nat) : aliveS (sweepS S ((wS S now).take n)) now = aliveS S now := by
  have hs' := sweep_srt ((wS S now).take n) hs
  rw [alive_eq hs', alive_eq hs, sweep_filter _ hs, List.filter_filter]
  congr 1
  refine List.filter_congr fun x hx => ?_
  cases hd : dueB now x with
  | true => rfl
  | false =>
    rw [Bool.not_false, Bool.true_and, List.all_eq_true]
    intro k hk
    obtain ⟨y, hy, rfl, h1, h2⟩ := wS_mem.1 (List.mem_of_mem_take hk)
    have : ¬ x.key = y.key := fun e => by
      have := key_uniq hs hx hy e
      subst this
      unfold dueB at hd
      simp [h1, h2] at hd
    simp [this]
end

end Go.Proofs.Ythjjkinpbpealaa

/-
  Chapter 45: the law ExpireHolds: its inner loops.
  Conditions: none. By an AI agent.
-/
set_option maxRecDepth 10000
set_option linter.unusedSimpArgs false
set_option linter.unusedVariables false
namespace Go.Proofs.Ythjjkinpbpealaa
open Go Eng
attribute [local congr] bareK_congr' bothK_congr' quietK_congr'

section
variable {c tb ub : Nat} {H : AHeap} {S : List En} {now : Nat} {d : ByteArray → Bool} {g : ByteArray → Int}
theorem HI.Len (h : HI c tb ub H S now d g) : CC F.expire_Store_Len [pt c] H = some (.int .i64 ((aliveS S now).length : Int), H) := by
  obtain ⟨m, E, r⟩ := h.st
  rw [alive_len r.srt]
  exact q_xLen r
theorem HI.Get (h : HI c tb ub H S now d g) (k : ByteArray) : CC F.expire_Store_Get [pt c, .string k] H = some (.tuple #[.string (getX S now k).1, .int .i64 ((getX S now k).2.1 : Int), .int .i64 (getX S now k).2.2], H) := by
  obtain ⟨m, E, r⟩ := h.st
  exact q_xGet h.ok r k
theorem HI.Now (h : HI c tb ub H S now d g) : CC F.expire_Store_Now [pt c] H = some (.int .i64 (now : Int), H) := by
  obtain ⟨m, E, r⟩ := h.st
  exact q_xNow r
theorem HI.Alive (h : HI c tb ub H S now d g) : ∃ v H', CC F.expire_Store_Alive [pt c] H = some (v, H') ∧ Own EPr H' T.api_Pair v (aliveS S now) ∧ Still H H' ∧ ∀ b, blockOf v = some b → H.n ≤ b ∧ b < H'.n := by
  obtain ⟨m, E, r⟩ := h.st
  exact q_xAlive h.ok r

/-- The pairs before and after are alike. -/
theorem l_h1 {v0 v3 v4 v5 v6 v7 v8 v9 v11 v13 : Value} {P : List Pr} (r9 : Rd EPr H v9 P) (r13 : Rd EPr H v13 P) (hl : P.length ≤ 20000) (K : K) : ∀ (q : List Pr) (i : Nat), P.drop i = q → i ≤ P.length →
    l_law_ExpireHolds_1 v0 v3 v4 v5 v6 v7 v8 v9 v11 v13 (.int .i64 (i : Int)) H (blkK [0, 3, 4, 5, 6, 7, 8, 9, 11] 3 K) = K .normal [(0, v0), (3, v3), (4, v4), (5, v5), (6, v6), (7, v7), (8, v8), (9, v9), (11, v11)] H
  | [], i, hd, hi => by
    have h : P.length ≤ i := List.drop_eq_nil_iff.1 hd
    have hlt : ¬ (i : Int) < (P.length : Int) := by omega
    have hlen := r13.lenS
    rw [r_law_ExpireHolds_1]
    simp (disch := first | with_reducible rfl | assumption | omega | rfl | (simp only [go_sem]; first | done | omega)) only [go_sem, ↓reduceIte, reduceCtorEq, Nat.reduceEqDiff, Nat.reduceAdd, Nat.reduceSub, Nat.reduceMul, Nat.reduceDiv, Nat.reduceMod, Nat.reduceLeDiff, Nat.reduceLT, Nat.reduceBEq, Int.reduceEq, Int.reduceBEq, Int.reduceBNe, Int.reduceLT, Int.reduceLE, Int.reduceAdd, Int.reduceSub, Int.reduceNeg, Int.reduceToNat, Int.reducePow, Nat.reducePow, Int.reduceMul, Int.reduceDiv, ↓s_law_ExpireHolds_b1, hlen, hlt]
  | a :: q, i, hd, hi => by
    obtain ⟨h, ha, hd'⟩ := drop_pr hd
    have hlt : (i : Int) < (P.length : Int) := by omega
    have hlen := r13.lenS
    obtain ⟨bb, o, ix, hbn, hcc, hbl⟩ := r13.ix (q := .i64) h
    have ix : ixS 2 v13 (.int .i64 i) = some (.pointer (some ⟨bb, o, none⟩)) := ix
    rw [ha] at hcc
    have hcc : cutB (H.f bb) o 2 = some [.string a.key, .string a.value] := hcc
    obtain ⟨b2, o2, ix2, hbn2, hcc2, hbl2⟩ := r9.ix (q := .i64) h
    have ix2 : ixS 2 v9 (.int .i64 i) = some (.pointer (some ⟨b2, o2, none⟩)) := ix2
    rw [ha] at hcc2
    have hcc2 : cutB (H.f b2) o2 2 = some [.string a.key, .string a.value] := hcc2
    have hne : ∀ ox oy, xbin Try.prog .neq T.api_Pair ox oy (.agg #[.string a.key, .string a.value]) (.agg #[.string a.key, .string a.value]) = some (.bool false) := fun ox oy => by
      rw [pair_ne]
      simp
    have ih := l_h1 (v0 := v0) (v3 := v3) (v4 := v4) (v5 := v5) (v6 := v6) (v7 := v7) (v8 := v8) (v11 := v11) r9 r13 hl K q (i + 1) hd' (by omega)
    rw [Int.natCast_add] at ih
    rw [r_law_ExpireHolds_1]
    simp (disch := first | with_reducible rfl | assumption | omega | rfl | (simp only [go_sem]; first | done | omega)) only [go_sem, ↓reduceIte, reduceCtorEq, Nat.reduceEqDiff, Nat.reduceAdd, Nat.reduceSub, Nat.reduceMul, Nat.reduceDiv, Nat.reduceMod, Nat.reduceLeDiff, Nat.reduceLT, Nat.reduceBEq, Int.reduceEq, Int.reduceBEq, Int.reduceBNe, Int.reduceLT, Int.reduceLE, Int.reduceAdd, Int.reduceSub, Int.reduceNeg, Int.reduceToNat, Int.reducePow, Nat.reducePow, Int.reduceMul, Int.reduceDiv, ↓s_law_ExpireHolds_b1, hlen, hlt, ix, hcc, ix2, hcc2, ↓hne, hne]
    exact ih

/-- What was swept out was due. -/
theorem l_h2 {v0 v6 v7 v8 v9 v11 : Value} {G : List ByteArray} (hI : HI c tb ub H S now d g) (r : Rd EStr H v11 G) (hg : ∀ k ∈ G, 1 ≤ g k ∧ g k ≤ (now : Int)) (hl : G.length ≤ 20000) (K : K) : ∀ (q : List ByteArray) (i : Nat), G.drop i = q → i ≤ G.length →
    l_law_ExpireHolds_2 v0 (pt c) (.map (some tb)) (.map (some ub)) v6 v7 v8 v9 v11 (.int .i64 (i : Int)) H (blkK [0, 3, 4, 5, 6, 7, 8, 9] 5 K) = K .normal [(0, v0), (3, pt c), (4, .map (some tb)), (5, .map (some ub)), (6, v6), (7, v7), (8, v8), (9, v9)] H
  | [], i, hd, hi => by
    have h : G.length ≤ i := List.drop_eq_nil_iff.1 hd
    have hlt : ¬ (i : Int) < (G.length : Int) := by omega
    have hlen := r.lenS
    rw [r_law_ExpireHolds_2]
    simp (disch := first | with_reducible rfl | assumption | omega | rfl | (simp only [go_sem]; first | done | omega)) only [go_sem, ↓reduceIte, reduceCtorEq, Nat.reduceEqDiff, Nat.reduceAdd, Nat.reduceSub, Nat.reduceMul, Nat.reduceDiv, Nat.reduceMod, Nat.reduceLeDiff, Nat.reduceLT, Nat.reduceBEq, Int.reduceEq, Int.reduceBEq, Int.reduceBNe, Int.reduceLT, Int.reduceLE, Int.reduceAdd, Int.reduceSub, Int.reduceNeg, Int.reduceToNat, Int.reducePow, Nat.reducePow, Int.reduceMul, Int.reduceDiv, ↓s_law_ExpireHolds_b2, hlen, hlt]
  | k :: q, i, hd, hi => by
    have h : i < G.length := by
      rcases Nat.lt_or_ge i G.length with h | h
      · exact h
      · rw [List.drop_eq_nil_of_le h] at hd; cases hd
    have ha : G[i] = k := by rw [List.drop_eq_getElem_cons h] at hd; exact (List.cons.inj hd).1
    have hd' : G.drop (i + 1) = q := by rw [List.drop_eq_getElem_cons h] at hd; exact (List.cons.inj hd).2
    have hlt : (i : Int) < (G.length : Int) := by omega
    have hlen := r.lenS
    obtain ⟨bb, o, ix, hbn, hcc, hbl⟩ := r.ix (q := .i64) h
    have ix : ixS 1 v11 (.int .i64 i) = some (.pointer (some ⟨bb, o, none⟩)) := ix
    have c0 : cellB (H.f bb) o = some (.string k) := by
      have := cutB_cell hcc (i := 0) (by decide)
      rw [ha] at this
      exact this
    have lk := hI.en.look mt k
    obtain ⟨g1, g2⟩ := hg k (by rw [← ha]; exact List.getElem_mem _)
    have g1' : ¬ g k < 1 := by omega
    have g2' : ¬ (now : Int) < g k := by omega
    have e1 := hI.Now
    have ih := l_h2 (v0 := v0) (v6 := v6) (v7 := v7) (v8 := v8) (v9 := v9) hI r hg hl K q (i + 1) hd' (by omega)
    rw [Int.natCast_add] at ih
    generalize g k = G1 at lk g1' g2'
    rw [r_law_ExpireHolds_2]
    simp (disch := first | with_reducible rfl | assumption | omega | rfl | (simp only [go_sem]; first | done | omega)) only [go_sem, ↓reduceIte, reduceCtorEq, Nat.reduceEqDiff, Nat.reduceAdd, Nat.reduceSub, Nat.reduceMul, Nat.reduceDiv, Nat.reduceMod, Nat.reduceLeDiff, Nat.reduceLT, Nat.reduceBEq, Int.reduceEq, Int.reduceBEq, Int.reduceBNe, Int.reduceLT, Int.reduceLE, Int.reduceAdd, Int.reduceSub, Int.reduceNeg, Int.reduceToNat, Int.reducePow, Nat.reducePow, Int.reduceMul, Int.reduceDiv, ↓s_law_ExpireHolds_b2, hlen, hlt, ix, c0, lk, g1', g2', ↓enterK_eq e1, enterK_eq e1]
    exact ih

/-- The keys that were alive before and are not any more. -/
theorem l_h3 {v0 v6 v9 : Value} {b7 : Nat} {a : Act} {P : List Pr} (hl : P.length ≤ 20000) : ∀ (q : List Pr) (i : Nat) (d : ByteArray → Bool) (H : AHeap), P.drop i = q → i ≤ P.length → HI c tb ub H S now d g → (∀ k, d k = true → (getX S now k).2.2 ≠ 0) → Rd EPr H v9 P → (∀ b, blockOf v9 = some b → Sep c tb ub H b) →
    H.f b7 = actB a.what a.key a.val a.n → Sep c tb ub H b7 →
    ∃ d' H', (∀ K, l_law_ExpireHolds_3 v0 (pt c) (.map (some tb)) (.map (some ub)) v6 (pt b7) v9 (.int .i64 (i : Int)) H (blkK [0, 3, 4, 5, 6] 7 K) = K .normal [(0, v0), (3, pt c), (4, .map (some tb)), (5, .map (some ub)), (6, v6)] H') ∧
      HI c tb ub H' S now d' g ∧ (∀ k, d' k = true → (getX S now k).2.2 ≠ 0) ∧ UpH c tb ub H H'
  | [], i, d, H, hd, hi, hI, pd, r9, s9, f7, s7 => by
    have h : P.length ≤ i := List.drop_eq_nil_iff.1 hd
    have hlt : ¬ (i : Int) < (P.length : Int) := by omega
    have hlen := r9.lenS
    refine ⟨d, H, fun K => ?_, hI, pd, UpH.refl c tb ub H⟩
    rw [r_law_ExpireHolds_3]
    simp (disch := first | with_reducible rfl | assumption | omega | rfl | (simp only [go_sem]; first | done | omega)) only [go_sem, ↓reduceIte, reduceCtorEq, Nat.reduceEqDiff, Nat.reduceAdd, Nat.reduceSub, Nat.reduceMul, Nat.reduceDiv, Nat.reduceMod, Nat.reduceLeDiff, Nat.reduceLT, Nat.reduceBEq, Int.reduceEq, Int.reduceBEq, Int.reduceBNe, Int.reduceLT, Int.reduceLE, Int.reduceAdd, Int.reduceSub, Int.reduceNeg, Int.reduceToNat, Int.reducePow, Nat.reducePow, Int.reduceMul, Int.reduceDiv, ↓s_law_ExpireHolds_b3, hlen, hlt]
  | p :: q, i, d, H, hd, hi, hI, pd, r9, s9, f7, s7 => by
    obtain ⟨h, ha, hd'⟩ := drop_pr hd
    have hlt : (i : Int) < (P.length : Int) := by omega
    have hlen := r9.lenS
    obtain ⟨bb, o, ix, hbn, hcc, hbl⟩ := r9.ix (q := .i64) h
    have ix : ixS 2 v9 (.int .i64 i) = some (.pointer (some ⟨bb, o, none⟩)) := ix
    have c0 : cellB (H.f bb) o = some (.string p.key) := by
      have := cutB_cell hcc (i := 0) (by decide)
      rw [ha] at this
      exact this
    unfold actB at f7
    have e1 := hI.Get p.key
    by_cases hz : (getX S now p.key).2.2 = 0
    · obtain ⟨d', H', g1, g2, g3, g4⟩ := l_h3 (v0 := v0) (v6 := v6) (a := a) hl q (i + 1) d H hd' (by omega) hI pd r9 s9 f7 s7
      refine ⟨d', H', fun K => ?_, g2, g3, g4⟩
      have ih := g1 K
      rw [Int.natCast_add] at ih
      rw [r_law_ExpireHolds_3]
      simp (disch := first | with_reducible rfl | assumption | omega | rfl | (simp only [go_sem]; first | done | omega)) only [go_sem, ↓reduceIte, reduceCtorEq, Nat.reduceEqDiff, Nat.reduceAdd, Nat.reduceSub, Nat.reduceMul, Nat.reduceDiv, Nat.reduceMod, Nat.reduceLeDiff, Nat.reduceLT, Nat.reduceBEq, Int.reduceEq, Int.reduceBEq, Int.reduceBNe, Int.reduceLT, Int.reduceLE, Int.reduceAdd, Int.reduceSub, Int.reduceNeg, Int.reduceToNat, Int.reducePow, Nat.reducePow, Int.reduceMul, Int.reduceDiv, ↓s_law_ExpireHolds_b3, hlen, hlt, ix, c0, ↓enterK_eq e1, enterK_eq e1, hz]
      exact ih
    · by_cases hw : a.what = 3
      · obtain ⟨H1, e2, h1, u1⟩ := hI.setD p.key true
        obtain ⟨d', H', g1, g2, g3, g4⟩ := l_h3 (v0 := v0) (v6 := v6) (a := a) hl q (i + 1) (updF d p.key true) H1 hd' (by omega) h1 (fun k hk => by
          unfold updF at hk
          by_cases e : p.key = k
          · rw [← e]; exact hz
          · rw [if_neg e] at hk; exact pd k hk) (Sep.rd s9 u1 r9) (fun b hb => (s9 b hb).up u1) (by rw [s7.f u1]; exact f7) (s7.up u1)
        refine ⟨d', H', fun K => ?_, g2, g3, UpH.trans (fun b hb => hI.lt hb) u1 g4⟩
        have ih := g1 K
        rw [Int.natCast_add] at ih
        rw [r_law_ExpireHolds_3]
        generalize (getX S now p.key).2.2 = G2 at e1 hz
        simp (disch := first | with_reducible rfl | assumption | omega | rfl | (simp only [go_sem]; first | done | omega)) only [go_sem, ↓reduceIte, reduceCtorEq, Nat.reduceEqDiff, Nat.reduceAdd, Nat.reduceSub, Nat.reduceMul, Nat.reduceDiv, Nat.reduceMod, Nat.reduceLeDiff, Nat.reduceLT, Nat.reduceBEq, Int.reduceEq, Int.reduceBEq, Int.reduceBNe, Int.reduceLT, Int.reduceLE, Int.reduceAdd, Int.reduceSub, Int.reduceNeg, Int.reduceToNat, Int.reducePow, Nat.reducePow, Int.reduceMul, Int.reduceDiv, ↓s_law_ExpireHolds_b3, hlen, hlt, ix, c0, ↓enterK_eq e1, enterK_eq e1, hz, f7, hw, e2]
        exact ih
      · obtain ⟨d', H', g1, g2, g3, g4⟩ := l_h3 (v0 := v0) (v6 := v6) (a := a) hl q (i + 1) d H hd' (by omega) hI pd r9 s9 f7 s7
        refine ⟨d', H', fun K => ?_, g2, g3, g4⟩
        have ih := g1 K
        rw [Int.natCast_add] at ih
        rw [r_law_ExpireHolds_3]
        generalize (getX S now p.key).2.2 = G2 at e1 hz
        simp (disch := first | with_reducible rfl | assumption | omega | rfl | (simp only [go_sem]; first | done | omega)) only [go_sem, ↓reduceIte, reduceCtorEq, Nat.reduceEqDiff, Nat.reduceAdd, Nat.reduceSub, Nat.reduceMul, Nat.reduceDiv, Nat.reduceMod, Nat.reduceLeDiff, Nat.reduceLT, Nat.reduceBEq, Int.reduceEq, Int.reduceBEq, Int.reduceBNe, Int.reduceLT, Int.reduceLE, Int.reduceAdd, Int.reduceSub, Int.reduceNeg, Int.reduceToNat, Int.reducePow, Nat.reducePow, Int.reduceMul, Int.reduceDiv, ↓s_law_ExpireHolds_b3, hlen, hlt, ix, c0, ↓enterK_eq e1, enterK_eq e1, hz, f7, hw]
        exact ih

/-- No key that is marked is alive. -/
theorem l_h4 {v0 v6 : Value} {l : List Act} (hI : HI c tb ub H S now d g) (pd : ∀ k, d k = true → (getX S now k).2.2 ≠ 0) (r : Rd EAct H v0 l) (hl : l.length ≤ 1000) (K : K) : ∀ (q : List Act) (i : Nat), l.drop i = q → i ≤ l.length →
    l_law_ExpireHolds_4 v0 (pt c) (.map (some tb)) (.map (some ub)) v6 (.int .i64 (i : Int)) H (blkK [0, 3, 4, 5, 6] 9 K) = K .normal [(0, v0), (3, pt c), (4, .map (some tb)), (5, .map (some ub)), (6, v6)] H
  | [], i, hd, hi => by
    have h : l.length ≤ i := List.drop_eq_nil_iff.1 hd
    have hlt : ¬ (i : Int) < (l.length : Int) := by omega
    have hlen := r.lenS
    rw [r_law_ExpireHolds_4]
    simp (disch := first | with_reducible rfl | assumption | omega | rfl | (simp only [go_sem]; first | done | omega)) only [go_sem, ↓reduceIte, reduceCtorEq, Nat.reduceEqDiff, Nat.reduceAdd, Nat.reduceSub, Nat.reduceMul, Nat.reduceDiv, Nat.reduceMod, Nat.reduceLeDiff, Nat.reduceLT, Nat.reduceBEq, Int.reduceEq, Int.reduceBEq, Int.reduceBNe, Int.reduceLT, Int.reduceLE, Int.reduceAdd, Int.reduceSub, Int.reduceNeg, Int.reduceToNat, Int.reducePow, Nat.reducePow, Int.reduceMul, Int.reduceDiv, ↓s_law_ExpireHolds_b4, hlen, hlt]
  | a :: q, i, hd, hi => by
    obtain ⟨h, ha, hd'⟩ := drop_act hd
    have hlt : (i : Int) < (l.length : Int) := by omega
    have hlen := r.lenS
    obtain ⟨bb, o, ix, hbn, hcc, hbl⟩ := r.ix (q := .i64) h
    have ix : ixS 4 v0 (.int .i64 i) = some (.pointer (some ⟨bb, o, none⟩)) := ix
    rw [ha] at hcc
    have c1 : cellB (H.f bb) (o + 1) = some (.string a.key) := cutB_cell hcc (i := 1) (by decide)
    have e1 := hI.Get a.key
    have lk := hI.ed.look mtB a.key
    have hpd := pd a.key
    have ih := l_h4 (v6 := v6) hI pd r hl K q (i + 1) hd' (by omega)
    rw [Int.natCast_add] at ih
    rw [r_law_ExpireHolds_4]
    generalize (getX S now a.key).2.2 = G2 at e1 hpd
    by_cases hz : G2 = 0
    · have hf : d a.key = false := by
        cases hdk : d a.key with
        | false => rfl
        | true => exact absurd hz (hpd hdk)
      rw [hf] at lk
      simp (disch := first | with_reducible rfl | assumption | omega | rfl | (simp only [go_sem]; first | done | omega)) only [go_sem, ↓reduceIte, reduceCtorEq, Nat.reduceEqDiff, Nat.reduceAdd, Nat.reduceSub, Nat.reduceMul, Nat.reduceDiv, Nat.reduceMod, Nat.reduceLeDiff, Nat.reduceLT, Nat.reduceBEq, Int.reduceEq, Int.reduceBEq, Int.reduceBNe, Int.reduceLT, Int.reduceLE, Int.reduceAdd, Int.reduceSub, Int.reduceNeg, Int.reduceToNat, Int.reducePow, Nat.reducePow, Int.reduceMul, Int.reduceDiv, ↓s_law_ExpireHolds_b4, hlen, hlt, ix, c1, ↓enterK_eq e1, enterK_eq e1, hz, lk]
      exact ih
    · simp (disch := first | with_reducible rfl | assumption | omega | rfl | (simp only [go_sem]; first | done | omega)) only [go_sem, ↓reduceIte, reduceCtorEq, Nat.reduceEqDiff, Nat.reduceAdd, Nat.reduceSub, Nat.reduceMul, Nat.reduceDiv, Nat.reduceMod, Nat.reduceLeDiff, Nat.reduceLT, Nat.reduceBEq, Int.reduceEq, Int.reduceBEq, Int.reduceBNe, Int.reduceLT, Int.reduceLE, Int.reduceAdd, Int.reduceSub, Int.reduceNeg, Int.reduceToNat, Int.reducePow, Nat.reducePow, Int.reduceMul, Int.reduceDiv, ↓s_law_ExpireHolds_b4, hlen, hlt, ix, c1, ↓enterK_eq e1, enterK_eq e1, hz]
      exact ih
end

end Go.Proofs.Ythjjkinpbpealaa

/-
  Chapter 45: the law ExpireHolds runs to true.
  Conditions: none. By an AI agent.
-/
set_option maxRecDepth 10000
set_option linter.unusedSimpArgs false
set_option linter.unusedVariables false
namespace Go.Proofs.Ythjjkinpbpealaa
open Go Eng
attribute [local congr] bareK_congr' bothK_congr' quietK_congr'

section
variable {c tb ub : Nat}
/-- What follows the acts of a round: the keys before, the keys of all acts, the next rounds. -/
theorem h_tail {v0 v9 : Value} {l : List Act} (hl : l.length ≤ 1000) {i b7 : Nat} {a : Act} {P : List Pr} (hP : P.length ≤ 20000)
    (IH : ∀ (H : AHeap) (S : List En) (now : Nat) (d : ByteArray → Bool) (g : ByteArray → Int), HI c tb ub H S now d g → PI S now d g → Rd EAct H v0 l → (∀ b, blockOf v0 = some b → Sep c tb ub H b) →
      ∃ H', ∀ K, l_law_ExpireHolds_0 v0 (pt c) (.map (some tb)) (.map (some ub)) (.int .i64 ((i + 1 : Nat) : Int)) H (blkK [] 0 K) = K .normal [] H')
    {H : AHeap} {S : List En} {now : Nat} {d : ByteArray → Bool} {g : ByteArray → Int} (hI : HI c tb ub H S now d g) (p : PI S now d g) (r0 : Rd EAct H v0 l) (s0 : ∀ b, blockOf v0 = some b → Sep c tb ub H b)
    (r9 : Rd EPr H v9 P) (s9 : ∀ b, blockOf v9 = some b → Sep c tb ub H b) (f7 : H.f b7 = actB a.what a.key a.val a.n) (s7 : Sep c tb ub H b7) :
    ∃ H6 H', (∀ K, l_law_ExpireHolds_3 v0 (pt c) (.map (some tb)) (.map (some ub)) (.int .i64 (i : Int)) (pt b7) v9 (.int .i64 0) H (blkK [0, 3, 4, 5, 6] 7 K) = K .normal [(0, v0), (3, pt c), (4, .map (some tb)), (5, .map (some ub)), (6, .int .i64 (i : Int))] H6) ∧
      (∀ K, l_law_ExpireHolds_4 v0 (pt c) (.map (some tb)) (.map (some ub)) (.int .i64 (i : Int)) (.int .i64 0) H6 (blkK [0, 3, 4, 5, 6] 9 K) = K .normal [(0, v0), (3, pt c), (4, .map (some tb)), (5, .map (some ub)), (6, .int .i64 (i : Int))] H6) ∧
      ∀ K, l_law_ExpireHolds_0 v0 (pt c) (.map (some tb)) (.map (some ub)) (.int .i64 ((i : Int) + 1)) H6 (blkK [] 0 K) = K .normal [] H' := by
  obtain ⟨d6, H6, g1, g2, g3, g4⟩ := l_h3 (v0 := v0) (v6 := .int .i64 (i : Int)) (a := a) hP P 0 d H rfl (Nat.zero_le _) hI p.ed r9 s9 f7 s7
  have r6 := Sep.rd s0 g4 r0
  obtain ⟨H', ih⟩ := IH H6 S now d6 g g2 ⟨p.en, g3⟩ r6 fun b hb => (s0 b hb).up g4
  refine ⟨H6, H', g1, fun K => l_h4 (v6 := .int .i64 (i : Int)) g2 g3 r6 hl K l 0 rfl (Nat.zero_le _), fun K => ?_⟩
  have ih := ih K
  rw [Int.natCast_add] at ih
  exact ih

theorem l_h0 {v0 : Value} {l : List Act} (hl : l.length ≤ 1000) : ∀ (q : List Act) (i : Nat) (H : AHeap) (S : List En) (now : Nat) (d : ByteArray → Bool) (g : ByteArray → Int), l.drop i = q → i ≤ l.length → HI c tb ub H S now d g → PI S now d g → Rd EAct H v0 l → (∀ b, blockOf v0 = some b → Sep c tb ub H b) →
    ∃ H', ∀ K, l_law_ExpireHolds_0 v0 (pt c) (.map (some tb)) (.map (some ub)) (.int .i64 (i : Int)) H (blkK [] 0 K) = K .normal [] H'
  | [], i, H, S, now, d, g, hd, hi, hI, p, r0, s0 => by
    have h : l.length ≤ i := List.drop_eq_nil_iff.1 hd
    have hlt : ¬ (i : Int) < (l.length : Int) := by omega
    have hlen := r0.lenS
    refine ⟨H, fun K => ?_⟩
    rw [r_law_ExpireHolds_0]
    simp (disch := first | with_reducible rfl | assumption | omega | rfl | (simp only [go_sem]; first | done | omega)) only [go_sem, ↓reduceIte, reduceCtorEq, Nat.reduceEqDiff, Nat.reduceAdd, Nat.reduceSub, Nat.reduceMul, Nat.reduceDiv, Nat.reduceMod, Nat.reduceLeDiff, Nat.reduceLT, Nat.reduceBEq, Int.reduceEq, Int.reduceBEq, Int.reduceBNe, Int.reduceLT, Int.reduceLE, Int.reduceAdd, Int.reduceSub, Int.reduceNeg, Int.reduceToNat, Int.reducePow, Nat.reducePow, Int.reduceMul, Int.reduceDiv, ↓s_law_ExpireHolds_b0, hlen, hlt]
  | ⟨w, ky, vl, nn⟩ :: q, i, H, S, now, d, g, hd, hi, hI, p, r0, s0 => by
    obtain ⟨h, ha, hd'⟩ := drop_act hd
    have hlt : (i : Int) < (l.length : Int) := by omega
    have hlen := r0.lenS
    obtain ⟨bb, o, ix, hbn, hcc, hbl⟩ := r0.ix (q := .i64) h
    have ix : ixS 4 v0 (.int .i64 i) = some (.pointer (some ⟨bb, o, none⟩)) := ix
    rw [ha] at hcc
    have hcc : cutB (H.f bb) o 4 = some [.int .i64 w, .string ky, .string vl, .int .i64 nn] := hcc
    have IH := fun H S now d g => l_h0 (v0 := v0) hl q (i + 1) H S now d g hd' (by omega)
    -- the act, in a block of its own
    obtain ⟨Hz, hHz⟩ : ∃ Hz, H.push (actB 0 (mk []) (mk []) 0) = Hz := ⟨_, rfl⟩
    obtain ⟨H1, hH1⟩ : ∃ H1, Hz.set H.n (actB w ky vl nn) = H1 := ⟨_, rfl⟩
    have nw : newv T.law_Act (.agg #[.int .i64 0, .string (mk []), .string (mk []), .int .i64 0]) H = some (.pointer (some ⟨H.n, 0, none⟩), Hz) := by rw [← hHz]; rfl
    have fz : Hz.f H.n = actB 0 (mk []) (mk []) 0 := by rw [← hHz]; exact push_f_eq rfl
    have sz : Still H Hz := by rw [← hHz]; exact (Fr.refl H).push _
    have s1 : Still H H1 := by rw [← hH1]; exact sz.set _ _ fun h => absurd h (Nat.lt_irrefl _)
    have f1 : H1.f H.n = actB w ky vl nn := by rw [← hH1]; exact set_f_eq
    have n1 : H1.n = H.n + 1 := by rw [← hH1, ← hHz]; rfl
    unfold actB at fz hH1
    obtain ⟨hI1, u1⟩ := hI.still s1
    have s7 : Sep c tb ub H1 H.n := hI.new s1 (Nat.le_refl _) (by omega)
    have eL := hI1.Len
    obtain ⟨v9, H2, eA, ow, s2, nb⟩ := hI1.Alive
    obtain ⟨hI2, u2⟩ := hI1.still s2
    have hal := alive_len hI.srt now
    have hsl := hI.len
    obtain ⟨P, hP⟩ : ∃ P, aliveS S now = P := ⟨_, rfl⟩
    rw [hP] at eL ow hal
    have hPl : P.length ≤ 20000 := by omega
    have s7' := s7.up u2
    have f2 : H2.f H.n = actB w ky vl nn := by rw [s7.f u2]; exact f1
    have s9 : ∀ b, blockOf v9 = some b → Sep c tb ub H2 b := fun b hb => hI1.new s2 (nb b hb).1 (nb b hb).2
    have r2 := Sep.rd (fun b hb => (s0 b hb).up u1) u2 (Sep.rd s0 u1 r0)
    have s02 : ∀ b, blockOf v0 = some b → Sep c tb ub H2 b := fun b hb => ((s0 b hb).up u1).up u2
    have r9 := ow.rd
    have hself : ¬ (P.length : Int) < (P.length : Int) := Int.lt_irrefl _
    have bt : (true != true) = false := rfl
    have bf : (false != false) = false := rfl
    -- what every round ends in
    have tail : ∀ {H5 : AHeap} {S' : List En} {now' : Nat} {d' : ByteArray → Bool} {g' : ByteArray → Int}, HI c tb ub H5 S' now' d' g' → PI S' now' d' g' → UpH c tb ub H2 H5 → _ := fun {H5 S' now' d' g'} h5 p5 u5 =>
      h_tail (v9 := v9) hl (a := ⟨w, ky, vl, nn⟩) hPl IH h5 p5 (Sep.rd s02 u5 r2) (fun b hb => (s02 b hb).up u5) (Sep.rd s9 u5 r9) (fun b hb => (s9 b hb).up u5) (by rw [s7'.f u5]; exact f2) (s7'.up u5)
    have f7 : ∀ {H5 : AHeap}, UpH c tb ub H2 H5 → H5.f H.n = .cells [.int .i64 w, .string ky, .string vl, .int .i64 nn] T.law_Act true := fun u5 => by rw [s7'.f u5]; exact f2
    have f2' := f7 (UpH.refl c tb ub H2)
    obtain ⟨H3, eC, hI3, u3⟩ := q_callsX hI2 ⟨w, ky, vl, nn⟩
    have f3 := f7 u3
    have eC : CC F.law_calls [pt c, .agg #[.int .i64 w, .string ky, .string vl, .int .i64 nn]] H2 = some (.int .i64 (actX S now ⟨w, ky, vl, nn⟩).1, H3) := eC
    have lt2 : ∀ b, OB H2 c b → b < H2.n := fun b hb => hI2.lt hb
    unfold actX at eC hI3
    dsimp only at eC hI3
    by_cases w0 : w = 0
    · rw [if_pos w0] at eC hI3
      by_cases he : (putX S now ky vl nn).1 = 0
      · obtain ⟨hn0, hS⟩ := putX_ok he
        rw [he] at eC
        obtain ⟨H4, e4, hI4, u4⟩ := hI3.setD ky false
        obtain ⟨H5, e5, hI5, u5⟩ := hI4.setG ky nn
        have u24 := UpH.trans lt2 u3 u4
        have u25 := UpH.trans lt2 u24 u5
        have f4 := f7 u24
        have f5 := f7 u25
        have p5 : PI (putX S now ky vl nn).2 now (updF d ky false) (updF g ky nn) := by
          rw [hS]
          have hs' : Srt (pl (insR S ⟨ky, vl, nn.toNat⟩)) := by rw [← hS]; exact hI3.srt
          exact p.ins hI.srt hs' (n := nn) (by show nn = ((nn.toNat : Nat) : Int); omega) fun k hk => by
            unfold updF at hk
            by_cases e : ky = k
            · rw [if_pos e] at hk; cases hk
            · rw [if_neg e] at hk; exact ⟨hk, e⟩
        obtain ⟨H6, H', g3, g4, ih⟩ := tail hI5 p5 u25
        refine ⟨H', fun K => ?_⟩
        have ih := ih K
        subst w0
        rw [r_law_ExpireHolds_0]
        simp (disch := first | with_reducible rfl | assumption | omega | rfl | (simp only [go_sem]; first | done | omega)) only [go_sem, ↓reduceIte, reduceCtorEq, Nat.reduceEqDiff, Nat.reduceAdd, Nat.reduceSub, Nat.reduceMul, Nat.reduceDiv, Nat.reduceMod, Nat.reduceLeDiff, Nat.reduceLT, Nat.reduceBEq, Int.reduceEq, Int.reduceBEq, Int.reduceBNe, Int.reduceLT, Int.reduceLE, Int.reduceAdd, Int.reduceSub, Int.reduceNeg, Int.reduceToNat, Int.reducePow, Nat.reducePow, Int.reduceMul, Int.reduceDiv, ↓s_law_ExpireHolds_b0, hlen, hlt, ix, hcc, nw, fz, hH1, ↓enterK_eq eL, enterK_eq eL, ↓enterK_eq eA, enterK_eq eA, f2', ↓enterK_eq eC, enterK_eq eC, f3, f4, f5, e4, e5, g3, g4]
        exact ih
      · rw [putX_ne he] at hI3
        obtain ⟨H6, H', g3, g4, ih⟩ := tail hI3 p u3
        refine ⟨H', fun K => ?_⟩
        have ih := ih K
        generalize (putX S now ky vl nn).1 = e at eC he
        subst w0
        rw [r_law_ExpireHolds_0]
        simp (disch := first | with_reducible rfl | assumption | omega | rfl | (simp only [go_sem]; first | done | omega)) only [go_sem, ↓reduceIte, reduceCtorEq, Nat.reduceEqDiff, Nat.reduceAdd, Nat.reduceSub, Nat.reduceMul, Nat.reduceDiv, Nat.reduceMod, Nat.reduceLeDiff, Nat.reduceLT, Nat.reduceBEq, Int.reduceEq, Int.reduceBEq, Int.reduceBNe, Int.reduceLT, Int.reduceLE, Int.reduceAdd, Int.reduceSub, Int.reduceNeg, Int.reduceToNat, Int.reducePow, Nat.reducePow, Int.reduceMul, Int.reduceDiv, ↓s_law_ExpireHolds_b0, hlen, hlt, ix, hcc, nw, fz, hH1, ↓enterK_eq eL, enterK_eq eL, ↓enterK_eq eA, enterK_eq eA, f2', ↓enterK_eq eC, enterK_eq eC, he, f3, g3, g4]
        exact ih
    rw [if_neg w0] at eC hI3
    by_cases w1 : w = 1
    · rw [if_pos w1] at eC hI3
      by_cases he : (extX S now ky nn).1 = 0
      · obtain ⟨hn0, x, hS, hz⟩ := extX_ok he
        rw [he] at eC
        obtain ⟨H5, e5, hI5, u5⟩ := hI3.setG ky nn
        have u25 := UpH.trans lt2 u3 u5
        have p5 : PI (extX S now ky nn).2 now d (updF g ky nn) := by
          rw [hS]
          have hs' : Srt (pl (insR S ⟨ky, x, nn.toNat⟩)) := by rw [← hS]; exact hI3.srt
          exact p.ins hI.srt hs' (n := nn) (by show nn = ((nn.toNat : Nat) : Int); omega) fun k hk => ⟨hk, fun e => by
            have e : ky = k := e
            rw [← e] at hk
            exact p.ed _ hk hz⟩
        obtain ⟨H6, H', g3, g4, ih⟩ := tail hI5 p5 u25
        have f5 := f7 u25
        refine ⟨H', fun K => ?_⟩
        have ih := ih K
        subst w1
        rw [r_law_ExpireHolds_0]
        simp (disch := first | with_reducible rfl | assumption | omega | rfl | (simp only [go_sem]; first | done | omega)) only [go_sem, ↓reduceIte, reduceCtorEq, Nat.reduceEqDiff, Nat.reduceAdd, Nat.reduceSub, Nat.reduceMul, Nat.reduceDiv, Nat.reduceMod, Nat.reduceLeDiff, Nat.reduceLT, Nat.reduceBEq, Int.reduceEq, Int.reduceBEq, Int.reduceBNe, Int.reduceLT, Int.reduceLE, Int.reduceAdd, Int.reduceSub, Int.reduceNeg, Int.reduceToNat, Int.reducePow, Nat.reducePow, Int.reduceMul, Int.reduceDiv, ↓s_law_ExpireHolds_b0, hlen, hlt, ix, hcc, nw, fz, hH1, ↓enterK_eq eL, enterK_eq eL, ↓enterK_eq eA, enterK_eq eA, f2', ↓enterK_eq eC, enterK_eq eC, f3, f5, e5, g3, g4]
        exact ih
      · rw [extX_ne he] at hI3
        obtain ⟨H6, H', g3, g4, ih⟩ := tail hI3 p u3
        refine ⟨H', fun K => ?_⟩
        have ih := ih K
        generalize (extX S now ky nn).1 = e at eC he
        subst w1
        rw [r_law_ExpireHolds_0]
        simp (disch := first | with_reducible rfl | assumption | omega | rfl | (simp only [go_sem]; first | done | omega)) only [go_sem, ↓reduceIte, reduceCtorEq, Nat.reduceEqDiff, Nat.reduceAdd, Nat.reduceSub, Nat.reduceMul, Nat.reduceDiv, Nat.reduceMod, Nat.reduceLeDiff, Nat.reduceLT, Nat.reduceBEq, Int.reduceEq, Int.reduceBEq, Int.reduceBNe, Int.reduceLT, Int.reduceLE, Int.reduceAdd, Int.reduceSub, Int.reduceNeg, Int.reduceToNat, Int.reducePow, Nat.reducePow, Int.reduceMul, Int.reduceDiv, ↓s_law_ExpireHolds_b0, hlen, hlt, ix, hcc, nw, fz, hH1, ↓enterK_eq eL, enterK_eq eL, ↓enterK_eq eA, enterK_eq eA, f2', ↓enterK_eq eC, enterK_eq eC, he, f3, g3, g4]
        exact ih
    rw [if_neg w1] at eC hI3
    by_cases w2 : w = 2
    · rw [if_pos w2] at eC hI3
      have hlen2 : (aliveS (delX S now ky).2 now).length ≤ P.length ∧ PI (delX S now ky).2 now d g := by
        unfold delX
        split
        · exact ⟨by rw [← hP]; exact Nat.le_refl _, p⟩
        · refine ⟨?_, p.sub (fun x hx => del_mem hx) hI.srt (Nat.le_refl _)⟩
          have hs := del_srt hI.srt ky
          show (aliveS (delR S ky) now).length ≤ _
          rw [del_filter hI.srt] at hs ⊢
          rw [← hP]
          exact alive_filter hI.srt _ hs (Nat.le_refl _)
      obtain ⟨H6, H', g3, g4, ih⟩ := tail hI3 hlen2.2 u3
      have eL3 := hI3.Len
      have hle := hlen2.1
      generalize (aliveS (delX S now ky).2 now).length = n3 at eL3 hle
      have hle' : ¬ (P.length : Int) < (n3 : Int) := by omega
      refine ⟨H', fun K => ?_⟩
      have ih := ih K
      generalize (delX S now ky).1 = e at eC
      subst w2
      rw [r_law_ExpireHolds_0]
      simp (disch := first | with_reducible rfl | assumption | omega | rfl | (simp only [go_sem]; first | done | omega)) only [go_sem, ↓reduceIte, reduceCtorEq, Nat.reduceEqDiff, Nat.reduceAdd, Nat.reduceSub, Nat.reduceMul, Nat.reduceDiv, Nat.reduceMod, Nat.reduceLeDiff, Nat.reduceLT, Nat.reduceBEq, Int.reduceEq, Int.reduceBEq, Int.reduceBNe, Int.reduceLT, Int.reduceLE, Int.reduceAdd, Int.reduceSub, Int.reduceNeg, Int.reduceToNat, Int.reducePow, Nat.reducePow, Int.reduceMul, Int.reduceDiv, ↓s_law_ExpireHolds_b0, hlen, hlt, ix, hcc, nw, fz, hH1, ↓enterK_eq eL, enterK_eq eL, ↓enterK_eq eA, enterK_eq eA, f2', ↓enterK_eq eC, enterK_eq eC, f3, ↓enterK_eq eL3, enterK_eq eL3, hle', g3, g4]
      exact ih
    rw [if_neg w2] at eC hI3
    by_cases w3 : w = 3
    · have hnn : now ≤ (passX now nn).2 := by
        unfold passX
        split
        · exact Nat.le_refl _
        · split
          · exact Nat.le_refl _
          · show now ≤ nn.toNat
            omega
      obtain ⟨H6, H', g3, g4, ih⟩ := tail hI3 (p.sub (fun x hx => hx) hI.srt hnn) u3
      have eL3 := hI3.Len
      have hle : (aliveS S (passX now nn).2).length ≤ P.length := by
        have ht : S.filter (fun _ => true) = S := List.filter_eq_self.2 fun _ _ => rfl
        have := alive_filter hI.srt (fun _ => true) (by rw [ht]; exact hI.srt) hnn
        rw [ht, hP] at this
        exact this
      have eL3 : CC F.expire_Store_Len [pt c] H3 = some (.int .i64 ((aliveS S (passX now nn).2).length : Int), H3) := eL3
      generalize (aliveS S (passX now nn).2).length = n3 at eL3 hle
      have hle' : ¬ (P.length : Int) < (n3 : Int) := by omega
      refine ⟨H', fun K => ?_⟩
      have ih := ih K
      generalize (passX now nn).1 = e at eC
      subst w3
      rw [r_law_ExpireHolds_0]
      simp (disch := first | with_reducible rfl | assumption | omega | rfl | (simp only [go_sem]; first | done | omega)) only [go_sem, ↓reduceIte, reduceCtorEq, Nat.reduceEqDiff, Nat.reduceAdd, Nat.reduceSub, Nat.reduceMul, Nat.reduceDiv, Nat.reduceMod, Nat.reduceLeDiff, Nat.reduceLT, Nat.reduceBEq, Int.reduceEq, Int.reduceBEq, Int.reduceBNe, Int.reduceLT, Int.reduceLE, Int.reduceAdd, Int.reduceSub, Int.reduceNeg, Int.reduceToNat, Int.reducePow, Nat.reducePow, Int.reduceMul, Int.reduceDiv, ↓s_law_ExpireHolds_b0, hlen, hlt, ix, hcc, nw, fz, hH1, ↓enterK_eq eL, enterK_eq eL, ↓enterK_eq eA, enterK_eq eA, f2', ↓enterK_eq eC, enterK_eq eC, f3, ↓enterK_eq eL3, enterK_eq eL3, hle', g3, g4]
      exact ih
    by_cases w4 : w = 4
    · obtain ⟨m, E, st2⟩ := hI2.st
      obtain ⟨v11, m4, E4, H4, eS, rS, st4, us, bS⟩ := q_xSweep hI2.ok st2 nn
      obtain ⟨hI4, u4⟩ := hI2.up us st4
      obtain ⟨v13, H5, eA5, ow5, s5, nb5⟩ := hI4.Alive
      obtain ⟨hI5, u5⟩ := hI4.still s5
      have u25 := UpH.trans lt2 u4 u5
      have halw : aliveS (sweepS S (if nn < 1 then [] else (wS S now).take nn.toNat)) now = P := by
        split
        · exact hP
        · rw [alive_sweep hI.srt]; exact hP
      have p5 : PI (sweepS S (if nn < 1 then [] else (wS S now).take nn.toNat)) now d g := p.sub (fun x hx => by
        rw [sweep_filter _ hI.srt] at hx
        exact (List.mem_filter.1 hx).1) hI.srt (Nat.le_refl _)
      have hG : ∀ k ∈ (if nn < 1 then [] else (wS S now).take nn.toNat), 1 ≤ g k ∧ g k ≤ (now : Int) := fun k hk => by
        split at hk
        · cases hk
        · obtain ⟨x, hx, rfl, h1, h2⟩ := wS_mem.1 (List.mem_of_mem_take hk)
          rw [p.en x hx]
          omega
      have hGl : (if nn < 1 then [] else (wS S now).take nn.toNat).length ≤ 20000 := by
        have := wS_le S now
        split
        · simp
        · rw [List.length_take]; omega
      rw [halw] at ow5
      have eL5 := hI5.Len
      rw [halw] at eL5
      have r95 := Sep.rd s9 u25 r9
      have r13 := ow5.rd
      have hl13 := r13.lenS
      have hl9 := r95.lenS
      have rS5 : Rd EStr H5 v11 (if nn < 1 then [] else (wS S now).take nn.toNat) := rS.still s5
      have f4 := f7 u4
      have f5 := f7 u25
      have k1 := fun K => l_h1 (v0 := v0) (v3 := pt c) (v4 := .map (some tb)) (v5 := .map (some ub)) (v6 := .int .i64 (i : Int)) (v7 := pt H.n) (v8 := .int .i64 (P.length : Int)) (v11 := v11) r95 r13 hPl K P 0 rfl (Nat.zero_le _)
      have k2 := fun K => l_h2 (v0 := v0) (v6 := .int .i64 (i : Int)) (v7 := pt H.n) (v8 := .int .i64 (P.length : Int)) (v9 := v9) hI5 rS5 hG hGl K _ 0 rfl (Nat.zero_le _)
      have k1 : ∀ K, l_law_ExpireHolds_1 v0 (pt c) (.map (some tb)) (.map (some ub)) (.int .i64 (i : Int)) (pt H.n) (.int .i64 (P.length : Int)) v9 v11 v13 (.int .i64 0) H5 (blkK [0, 3, 4, 5, 6, 7, 8, 9, 11] 3 K) = K .normal [(0, v0), (3, pt c), (4, .map (some tb)), (5, .map (some ub)), (6, .int .i64 (i : Int)), (7, pt H.n), (8, .int .i64 (P.length : Int)), (9, v9), (11, v11)] H5 := k1
      have k2 : ∀ K, l_law_ExpireHolds_2 v0 (pt c) (.map (some tb)) (.map (some ub)) (.int .i64 (i : Int)) (pt H.n) (.int .i64 (P.length : Int)) v9 v11 (.int .i64 0) H5 (blkK [0, 3, 4, 5, 6, 7, 8, 9] 5 K) = K .normal [(0, v0), (3, pt c), (4, .map (some tb)), (5, .map (some ub)), (6, .int .i64 (i : Int)), (7, pt H.n), (8, .int .i64 (P.length : Int)), (9, v9)] H5 := k2
      obtain ⟨H6, H', g3, g4, ih⟩ := tail hI5 p5 u25
      refine ⟨H', fun K => ?_⟩
      have ih := ih K
      by_cases hn : nn < 1
      · have hn' : ¬ (1 : Int) ≤ nn := by omega
        rw [if_pos hn] at eS rS5
        have hl11 := rS5.lenS
        have hl11 : lenS v11 = some (.int .i64 0) := hl11
        subst w4
        rw [r_law_ExpireHolds_0]
        simp (disch := first | with_reducible rfl | assumption | omega | rfl | (simp only [go_sem]; first | done | omega)) only [go_sem, ↓reduceIte, reduceCtorEq, Nat.reduceEqDiff, Nat.reduceAdd, Nat.reduceSub, Nat.reduceMul, Nat.reduceDiv, Nat.reduceMod, Nat.reduceLeDiff, Nat.reduceLT, Nat.reduceBEq, Int.reduceEq, Int.reduceBEq, Int.reduceBNe, Int.reduceLT, Int.reduceLE, Int.reduceAdd, Int.reduceSub, Int.reduceNeg, Int.reduceToNat, Int.reducePow, Nat.reducePow, Int.reduceMul, Int.reduceDiv, ↓s_law_ExpireHolds_b0, hlen, hlt, ix, hcc, nw, fz, hH1, ↓enterK_eq eL, enterK_eq eL, ↓enterK_eq eA, enterK_eq eA, f2', ↓enterK_eq eS, enterK_eq eS, ↓enterK_eq eA5, enterK_eq eA5, f4, f5, hn', hl13, hl9, hl11, k1, k2, ↓enterK_eq eL5, enterK_eq eL5, hself, bt, bf, g3, g4]
        exact ih
      · have hn' : (1 : Int) ≤ nn := by omega
        rw [if_neg hn] at eS
        subst w4
        rw [r_law_ExpireHolds_0]
        simp (disch := first | with_reducible rfl | assumption | omega | rfl | (simp only [go_sem]; first | done | omega)) only [go_sem, ↓reduceIte, reduceCtorEq, Nat.reduceEqDiff, Nat.reduceAdd, Nat.reduceSub, Nat.reduceMul, Nat.reduceDiv, Nat.reduceMod, Nat.reduceLeDiff, Nat.reduceLT, Nat.reduceBEq, Int.reduceEq, Int.reduceBEq, Int.reduceBNe, Int.reduceLT, Int.reduceLE, Int.reduceAdd, Int.reduceSub, Int.reduceNeg, Int.reduceToNat, Int.reducePow, Nat.reducePow, Int.reduceMul, Int.reduceDiv, ↓s_law_ExpireHolds_b0, hlen, hlt, ix, hcc, nw, fz, hH1, ↓enterK_eq eL, enterK_eq eL, ↓enterK_eq eA, enterK_eq eA, f2', ↓enterK_eq eS, enterK_eq eS, ↓enterK_eq eA5, enterK_eq eA5, f4, f5, hn', hl13, hl9, k1, k2, ↓enterK_eq eL5, enterK_eq eL5, hself, bt, bf, g3, g4]
        exact ih
    · obtain ⟨H6, H', g3, g4, ih⟩ := tail hI2 p (UpH.refl c tb ub H2)
      have eL2 := hI2.Len
      rw [hP] at eL2
      refine ⟨H', fun K => ?_⟩
      have ih := ih K
      by_cases hneg : (0 : Int) ≤ w
      · have h3 : ¬ w ≤ 3 := by omega
        have h1 : (1 : Int) < w := by omega
        rw [r_law_ExpireHolds_0]
        simp (disch := first | with_reducible rfl | assumption | omega | rfl | (simp only [go_sem]; first | done | omega)) only [go_sem, ↓reduceIte, reduceCtorEq, Nat.reduceEqDiff, Nat.reduceAdd, Nat.reduceSub, Nat.reduceMul, Nat.reduceDiv, Nat.reduceMod, Nat.reduceLeDiff, Nat.reduceLT, Nat.reduceBEq, Int.reduceEq, Int.reduceBEq, Int.reduceBNe, Int.reduceLT, Int.reduceLE, Int.reduceAdd, Int.reduceSub, Int.reduceNeg, Int.reduceToNat, Int.reducePow, Nat.reducePow, Int.reduceMul, Int.reduceDiv, ↓s_law_ExpireHolds_b0, hlen, hlt, ix, hcc, nw, fz, hH1, ↓enterK_eq eL, enterK_eq eL, ↓enterK_eq eA, enterK_eq eA, f2', hneg, h3, w4, h1, ↓enterK_eq eL2, enterK_eq eL2, hself, g3, g4]
        exact ih
      · have h1 : ¬ (1 : Int) < w := by omega
        rw [r_law_ExpireHolds_0]
        simp (disch := first | with_reducible rfl | assumption | omega | rfl | (simp only [go_sem]; first | done | omega)) only [go_sem, ↓reduceIte, reduceCtorEq, Nat.reduceEqDiff, Nat.reduceAdd, Nat.reduceSub, Nat.reduceMul, Nat.reduceDiv, Nat.reduceMod, Nat.reduceLeDiff, Nat.reduceLT, Nat.reduceBEq, Int.reduceEq, Int.reduceBEq, Int.reduceBNe, Int.reduceLT, Int.reduceLE, Int.reduceAdd, Int.reduceSub, Int.reduceNeg, Int.reduceToNat, Int.reducePow, Nat.reducePow, Int.reduceMul, Int.reduceDiv, ↓s_law_ExpireHolds_b0, hlen, hlt, ix, hcc, nw, fz, hH1, ↓enterK_eq eL, enterK_eq eL, ↓enterK_eq eA, enterK_eq eA, f2', hneg, w4, h1, g3, g4]
        exact ih
end

theorem q_ExpireHolds {v : Value} {l : List Act} {H : AHeap} (ok : Ok H) (r : Rd EAct H v l) (hvb : ∀ b, blockOf v = some b → b < H.n) (hl : l.length ≤ maxLen) : ∃ H', CC F.law_ExpireHolds [v] H = some (.bool true, H') := by
  have hs := q_small r 36 (Nat.le_trans hl (by decide)) (by decide)
  have hs : CC F.law_small [v, .int .i64 36] H = some (.bool (smallB l 36), H) := hs
  cases hb : smallB l 36 with
  | false =>
    rw [hb] at hs
    refine any_of (H1 := H) (d_law_ExpireHolds _ H ?_)
    simp (disch := first | with_reducible rfl | assumption | omega | rfl | (simp only [go_sem]; first | done | omega)) only [go_sem, ↓reduceIte, reduceCtorEq, Nat.reduceEqDiff, Nat.reduceAdd, Nat.reduceSub, Nat.reduceMul, Nat.reduceDiv, Nat.reduceMod, Nat.reduceLeDiff, Nat.reduceLT, Nat.reduceBEq, Int.reduceEq, Int.reduceBEq, Int.reduceBNe, Int.reduceLT, Int.reduceLE, Int.reduceAdd, Int.reduceSub, Int.reduceNeg, Int.reduceToNat, Int.reducePow, Nat.reducePow, Int.reduceMul, Int.reduceDiv, ↓s_law_ExpireHolds, ↓enterK_eq hs, enterK_eq hs, e_known]
  | true =>
    rw [hb] at hs
    have hl36 : l.length ≤ 36 := by
      unfold smallB at hb
      simp only [Bool.and_eq_true, decide_eq_true_eq] at hb
      exact hb.2
    obtain ⟨H1, hH1⟩ : ∃ H1, H.push (.cells [.slice none 0 0, .map none, .int .i64 0] T.expire_Store true) = H1 := ⟨_, rfl⟩
    obtain ⟨H2, hH2⟩ : ∃ H2, H1.push (.map []) = H2 := ⟨_, rfl⟩
    obtain ⟨H3, hH3⟩ : ∃ H3, H2.push (.map []) = H3 := ⟨_, rfl⟩
    have n1 : H1.n = H.n + 1 := by rw [← hH1]; rfl
    have n2 : H2.n = H.n + 2 := by rw [← hH2]; show H1.n + 1 = _; omega
    have n3 : H3.n = H.n + 3 := by rw [← hH3]; show H2.n + 1 = _; omega
    have s1 : Still H H1 := by rw [← hH1]; exact (Fr.refl H).push _
    have s12 : Still H1 H2 := by rw [← hH2]; exact (Fr.refl H1).push _
    have s23 : Still H2 H3 := by rw [← hH3]; exact (Fr.refl H2).push _
    have s13 : Still H1 H3 := s12.trans s23
    have f1 : H1.f H.n = .cells [.slice none 0 0, .map none, .int .i64 0] T.expire_Store true := by rw [← hH1]; exact push_f_eq rfl
    have m1 : xmakeMap Try.prog T.map_string_bool none H1 = some (.map (some H1.n), H2) := by rw [← hH2]; exact make_map mtB
    have m2 : xmakeMap Try.prog T.map_string_int none H2 = some (.map (some H2.n), H3) := by rw [← hH3]; exact make_map mt
    have r1 : StR H1 H.n none [] [] 0 := r_empty f1 (by omega)
    have e1 : MV Value.bool false H3 H1.n (fun _ => false) := by
      have h : MV Value.bool false H2 H1.n (fun _ => false) := by rw [← hH2]; exact MV.make H1
      exact h.keep s23 fun h => h
    have e2 : MV (Value.int .i64) 0 H3 H2.n (fun _ => 0) := by rw [← hH3]; exact MV.make H2
    have r3 := r1.still s13
    have hI : HI H.n H1.n H2.n H3 [] 0 (fun _ => false) (fun _ => 0) := ⟨s13.ok (s1.ok ok), ⟨_, _, r3⟩, e1, e2, by omega, fun h => by
      have := r1.lt ((ob_still (by omega) s13 fun h => h).1 h); omega, fun h => by
      have := r1.lt ((ob_still (by omega) s13 fun h => h).1 h); omega⟩
    have s3 : Still H H3 := s1.trans s13
    have r0 := r.still s3
    obtain ⟨H', g⟩ := l_h0 (v0 := v) (by omega) l 0 H3 [] 0 (fun _ => false) (fun _ => 0) rfl (Nat.zero_le _) hI ⟨fun x hx => (by cases hx), fun k hk => (by cases hk)⟩ r0 fun b hb => by
      have := hvb b hb
      refine ⟨by omega, fun h => ?_, by omega, by omega⟩
      have h := (ob_still (by omega) s13 fun h => h).1 h
      rcases h with h | ⟨u, m, n, hu, h⟩
      · omega
      · rw [f1] at hu
        cases hu
        rcases h with h | h <;> cases h
    have g : ∀ K, l_law_ExpireHolds_0 v (pt H.n) (.map (some H1.n)) (.map (some H2.n)) (.int .i64 0) H3 (blkK [] 0 K) = K .normal [] H' := g
    refine any_of (H1 := H') (d_law_ExpireHolds _ H ?_)
    simp (disch := first | with_reducible rfl | assumption | omega | rfl | (simp only [go_sem]; first | done | omega)) only [go_sem, ↓reduceIte, reduceCtorEq, Nat.reduceEqDiff, Nat.reduceAdd, Nat.reduceSub, Nat.reduceMul, Nat.reduceDiv, Nat.reduceMod, Nat.reduceLeDiff, Nat.reduceLT, Nat.reduceBEq, Int.reduceEq, Int.reduceBEq, Int.reduceBNe, Int.reduceLT, Int.reduceLE, Int.reduceAdd, Int.reduceSub, Int.reduceNeg, Int.reduceToNat, Int.reducePow, Nat.reducePow, Int.reduceMul, Int.reduceDiv, ↓s_law_ExpireHolds, ↓enterK_eq hs, enterK_eq hs, bldS_nil, hH1, m1, m2, g, e_known]

theorem slok_lt {e : TypeId} {H : AHeap} {v : Value} (h : SlOk e H v) : ∀ c, blockOf v = some c → c < H.n := by
  rcases h with rfl | ⟨b, o, n, code, rfl, _, _, h3⟩
  · intro c h; cases h
  · intro c h; cases h; exact h3
theorem run_ExpireHolds (W : World) (v : Value) (l : List Act) (rl : RdS EAct T.law_Act (absHeap2 W) v l) (_ : ∀ x, x ∈ l → True) (hl : l.length ≤ maxLen) : ∃ k H', dCall Try.prog prims1 hints k F.law_ExpireHolds [v] (absHeap2 W) = some (.bool true, H') := by
  obtain ⟨H', h⟩ := q_ExpireHolds (H := absHeap2 W) (fun _ => Nat.zero_lt_one) rl.1 (slok_lt rl.2) hl
  obtain ⟨k, h⟩ := D_run h
  exact ⟨k, _, h⟩

end Go.Proofs.Ythjjkinpbpealaa

/-
  The law ExpireHolds: for every input it returns true, and its input reads as it did.
  Conditions: none. By an AI agent.
-/
namespace Go.Proofs.Ythjjkinpbpealaa.expireHolds
open Go.ChangeShapes Go.WideShapes Go.ChangeAt Go.RowKit
open Go.ChangeMaps (open_string shut_string)
set_option linter.unusedVariables false
theorem own : ownKnob Try.prog.godebug = none := by kernel_rfl
theorem laidOut : laidOutB Try.prog = true := by kernel_rfl
set_option maxRecDepth 100000 in
theorem lifted (os : Os) (started : os.Started) (H : Type) (enc : TypeId × Value → H) :
    ReturnsInHanded {} Try.checked os 4 .any (Rows.expireHoldsSpec.pre6 enc Try.prog Try.f4 Rows.expireHoldsRow.domain false) (Rows.expireHoldsSpec.post enc Try.prog Try.f4 false true false false) := by
  refine returnsInHanded_of_change_sized (C := Try.checked) own started (by kernel_rfl) Try.func4
    (ChangeSpec.witness6 (enc := enc) (C := Try.checked) false ⟨#[], #[.slice none 0 0], []⟩ 8 (by kernel_rfl) (by kernel_rfl) (by kernel_rfl) (by kernel_rfl)) ?_
  intro W base args ds gs before hval0 hW hcnd hsz0 _
  have hsz : (DataW.weightsEach Try.prog (Try.f4.params.toList ++ Rows.expireHoldsSpec.plain.varTypes Try.prog) (ds ++ gs)).all (· ≤ reachBytes) = true := hsz0
  have hval : ∀ (j : Nat) t v, Try.f4.params[j]? = some t → args[j]? = some v → Value.okWide Try.prog W .any base t v := hval0
  have hW' := hW
  obtain ⟨p, q, hA0, hV, rfl, hfz, hnd⟩ := hW
  have hA : DataW.TrodAll enc Try.prog W 0 (fun _ => true) true Try.f4.params.toList args.toList ds p := hA0
  rw [Try.params4] at hA hval hsz
  obtain ⟨v0, vs0, d0, ds0, p0, q0, hargs, rfl, rfl, h0, r0⟩ := trodAll_cons hA
  obtain ⟨rfl, rfl, rfl⟩ := trodAll_nil r0
  obtain rfl : args = #[v0] := by cases args; simp_all
  obtain ⟨rfl, rfl⟩ := trodVars_none hV
  have k0 := h0
  have lt0 : ∀ x ∈ p0, x.block < W.heap.size := by obtain ⟨m, hm⟩ := k0; exact DataW.trod_lt m _ _ _ hm
  obtain ⟨l0, rd0, all0, len0⟩ := Eng.open_rd2 (t := 40) (e' := 44) Try.underlying40 (by kernel_rfl) (fun hp cs n y h hl => decAct hp h hl) (hval 0 40 v0 rfl rfl) k0
  refine (Eng.law_calls2 (args := #[v0]) prims1_ok mixed (fun _ hg => absurd hg List.not_mem_nil) (run_ExpireHolds W (Eng.convA2 W.heap.size v0) l0 rd0 all0 len0)).mono fun e W' ⟨he, bel⟩ => ?_
  subst he
  exact ⟨_, rfl, _, _, _, [], _, [], hW', trodAll_mk1 (shut_bool Try.underlying4 _), (trodAll_cons_mk (Below.trod laidOut (by kernel_rfl) (of_decide_eq_true (by kernel_rfl)) k0 bel lt0) trodAll_mk0), rfl, bel.frame _, fun h => by cases h⟩

theorem over : Rows.expireHoldsRow.holds Try.pinned (OpenSpec.ofChange Rows.expireHoldsSpec) :=
  OpenClaim.holds_of_wide 4 Try.f4 rfl rfl rfl rfl rfl rfl rfl ⟨rfl, rfl, rfl, rfl, rfl⟩ rfl rfl rfl rfl rfl (by kernel_rfl) Try.func4 (by kernel_rfl)
    (of_decide_eq_true (by kernel_rfl)) (by unfold Func.isWrapper; first | (rw [if_pos (by decide +kernel)]; kernel_rfl) | (rw [if_neg (by decide +kernel)]; exact ⟨rfl, rfl⟩))
    (fun os started H enc _ => lifted os started H enc)
theorem proved : Rows.ExpireHoldsSaid := over
#print axioms proved
end Go.Proofs.Ythjjkinpbpealaa.expireHolds
namespace Go.Proofs.Ythjjkinpbpealaa
/-- The row, under a short name, for the claim. -/
theorem expireHolds_holds : Rows.ExpireHoldsSaid := expireHolds.proved
end Go.Proofs.Ythjjkinpbpealaa
