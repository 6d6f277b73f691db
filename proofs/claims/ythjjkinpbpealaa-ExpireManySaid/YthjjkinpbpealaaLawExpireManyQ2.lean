/-
  6 texts in one (merge.py): Se Sf ShExpireMany DsExpireMany Ma LawExpireMany.
  Conditions: none. By an AI agent.
-/
import Derived.Test.YthjjkinpbpealaaLawExpireManyQ1
import Derived.Test.YthjjkinpbpealaaChecked
import Derived.KernelRfl
import Derived.Test.YthjjkinpbpealaaRows
import Derived.WalkKit
import Derived.ProofKit
import Derived.OpenShut
import Derived.ShutString
import Derived.ChangeOld
import Derived.Below
import Derived.SizedLaws
import Derived.ChangeArms
import Derived.Carry

/-
  Chapter 45: a store: what has ended, Waiting, Len, Sweep.
  Conditions: none. By an AI agent.
-/
set_option maxRecDepth 10000
set_option linter.unusedSimpArgs false
set_option linter.unusedVariables false
namespace Go.Proofs.Ythjjkinpbpealaa
open Go Eng
attribute [local congr] bareK_congr' bothK_congr' quietK_congr'

theorem EStr_cells : ∀ l : List ByteArray, EStr.cells l = l.map .string
  | [] => rfl
  | s :: l => by
    have : EStr.cells (s :: l) = .string s :: EStr.cells l := rfl
    rw [this, EStr_cells l]
    rfl

def conv (p : ByteArray × Nat) : List UInt8 × Int := (p.1.data.toList, (p.2 : Int))
def dueS (S : List En) (now : Nat) : List (ByteArray × Nat) := (S.filter fun x => decide (0 < x.e) && decide (x.e ≤ now)).map fun x => (x.key, x.e)
/-- The keys that have ended, by their ends. -/
def wS (S : List En) (now : Nat) : List ByteArray := (sortE ((dueS S now).map conv)).map fun k => ⟨k.1.toArray⟩

theorem wS_len (S : List En) (now : Nat) : (wS S now).length = (S.filter fun x => decide (0 < x.e) && decide (x.e ≤ now)).length := by
  unfold wS dueS
  rw [List.length_map, (sortE_perm _).length_eq, List.length_map, List.length_map]
theorem wS_mem {S : List En} {now : Nat} {k : ByteArray} : k ∈ wS S now ↔ ∃ x ∈ S, x.key = k ∧ 0 < x.e ∧ x.e ≤ now := by
  unfold wS dueS
  constructor
  · intro h
    obtain ⟨p, hp, rfl⟩ := List.mem_map.1 h
    have hp := (sortE_perm _).mem_iff.1 hp
    obtain ⟨q, hq, rfl⟩ := List.mem_map.1 hp
    obtain ⟨x, hx, rfl⟩ := List.mem_map.1 hq
    obtain ⟨h1, h2⟩ := List.mem_filter.1 hx
    simp only [Bool.and_eq_true, decide_eq_true_eq] at h2
    exact ⟨x, h1, by simp [conv], h2⟩
  · rintro ⟨x, hx, rfl, h1, h2⟩
    refine List.mem_map.2 ⟨conv (x.key, x.e), (sortE_perm _).mem_iff.2 (List.mem_map_of_mem (List.mem_map.2 ⟨x, List.mem_filter.2 ⟨hx, by simp [h1, h2]⟩, rfl⟩)), by simp [conv]⟩

theorem sortE_eq {a b : List (List UInt8 × Int)} (h : a.Perm b) : sortE a = sortE b := by
  refine List.Perm.eq_of_pairwise (le := fun x y => ¬ befB y x = true) (fun x y _ _ h1 h2 => ?_) (sortE_sorted a) (sortE_sorted b) (((sortE_perm a).trans h).trans (sortE_perm b).symm)
  rw [befB_iff] at h1 h2
  have e1 : ¬ y.2 < x.2 := fun e => h1 (.inl e)
  have e2 : ¬ x.2 < y.2 := fun e => h2 (.inl e)
  have e : x.2 = y.2 := by omega
  have l1 : ¬ y.1 < x.1 := fun k => h1 (.inr ⟨e.symm, k⟩)
  have l2 : ¬ x.1 < y.1 := fun k => h2 (.inr ⟨e, k⟩)
  exact Prod.ext (List.le_antisymm (List.not_lt.1 l1) (List.not_lt.1 l2)) e

theorem entS_ents : ∀ {E : Ec}, (∀ p ∈ E, p.1.size ≤ 1000 ∧ 0 < p.2 ∧ p.2 ≤ 4611686018427387904) → entS (entsOf E) = some (E.map conv)
  | [], _ => rfl
  | p :: E, h => by
    obtain ⟨h1, h2, h3⟩ := h p (by simp)
    have ih := entS_ents (E := E) fun q hq => h q (by simp [hq])
    show (if decide (p.1.size ≤ 1000) && (decide ((0 : Int) < (p.2 : Int)) && decide ((p.2 : Int) ≤ 4611686018427387904)) then (entS (entsOf E)).map ((p.1.data.toList, (p.2 : Int)) :: ·) else none) = _
    rw [if_pos (by simp; omega), ih]
    rfl

section
variable {H : AHeap} {c : Nat} {m : Option Nat} {E : Ec} {S : List En} {now : Nat}

theorem chk_size {k : ByteArray} (h : chk k [] = 0) : k.size ≤ 24 := by
  unfold chk at h
  split at h
  · cases h
  · split at h
    · cases h
    · rename_i h2
      have : ¬ 24 < (bl k).length := fun e => h2 (.inl e)
      have e : (bl k).length = k.size := by simp [bl]
      omega
theorem lkp_of_mem : ∀ {E : Ec}, (E.map (·.1)).Nodup → ∀ {p : ByteArray × Nat}, p ∈ E → lkp E p.1 = some p.2
  | q :: E, hn, p, hp => by
    rw [List.map_cons, List.nodup_cons] at hn
    rw [lkp]
    rcases List.mem_cons.1 hp with rfl | hp
    · rw [if_pos rfl]
    · rw [if_neg (fun e => hn.1 (by rw [← e]; exact List.mem_map_of_mem hp))]
      exact lkp_of_mem hn.2 hp
theorem end_mem {k : ByteArray} (h : endOf S k ≠ 0) : ∃ x ∈ S, x.key = k ∧ x.e = endOf S k := by
  rw [endOf_get] at h ⊢
  cases hg : getS S k with
  | none => rw [hg] at h; exact absurd rfl h
  | some x => obtain ⟨h1, h2⟩ := getS_key hg; exact ⟨x, h2, h1, rfl⟩
theorem StR.ent (r : StR H c m E S now) {p : ByteArray × Nat} (hp : p ∈ E) : ∃ x ∈ S, x.key = p.1 ∧ x.e = p.2 ∧ 0 < p.2 := by
  have h1 := lkp_of_mem r.nd hp
  have h2 := r.lk p.1
  rw [h1] at h2
  by_cases h : endOf S p.1 = 0
  · rw [if_pos h] at h2; cases h2
  · rw [if_neg h] at h2
    obtain ⟨x, hx, e1, e2⟩ := end_mem h
    have h2 : p.2 = endOf S p.1 := Option.some.inj h2
    exact ⟨x, hx, e1, by omega, by omega⟩
theorem StR.ents_ok (r : StR H c m E S now) : ∀ p ∈ E, p.1.size ≤ 1000 ∧ 0 < p.2 ∧ p.2 ≤ 4611686018427387904 := fun p hp => by
  obtain ⟨x, hx, e1, e2, e3⟩ := r.ent hp
  have h1 := r.ends x hx
  have h2 := chk_size (r.keys x hx)
  rw [e1] at h2
  exact ⟨by omega, e3, by omega⟩
theorem StR.due (r : StR H c m E S now) : ((E.map conv).filter fun k => decide (k.2 ≤ (now : Int))).Perm ((dueS S now).map conv) := by
  have e1 : (E.map conv).filter (fun k => decide (k.2 ≤ (now : Int))) = (E.filter fun p => decide (p.2 ≤ now)).map conv := by
    rw [List.filter_map]
    congr 1
    exact List.filter_congr fun p _ => by simp [conv]
  rw [e1]
  refine List.Perm.map _ ?_
  have nd1 : (E.filter fun p => decide (p.2 ≤ now)).Nodup := by
    have := r.nd
    rw [List.Nodup, List.pairwise_map] at this
    exact (List.Pairwise.filter _ (this.imp fun h e => h (by rw [e])))
  have nd2 : (dueS S now).Nodup := by
    unfold dueS
    rw [List.Nodup, List.pairwise_map]
    have hs := r.srt
    unfold Srt pl at hs
    rw [List.pairwise_map] at hs
    refine (hs.filter _).imp fun {a b} h e => ?_
    have h : cmpS a.key b.key < 0 := h
    have e : a.key = b.key := congrArg Prod.fst e
    rw [e, cmpS_self] at h
    exact absurd h (by decide)
  refine (List.perm_ext_iff_of_nodup nd1 nd2).2 fun p => ?_
  unfold dueS
  constructor
  · intro h
    obtain ⟨h1, h2⟩ := List.mem_filter.1 h
    obtain ⟨x, hx, e1, e2, e3⟩ := r.ent h1
    refine List.mem_map.2 ⟨x, List.mem_filter.2 ⟨hx, ?_⟩, by rw [e1, e2]⟩
    simp only [Bool.and_eq_true, decide_eq_true_eq]
    have := of_decide_eq_true h2
    omega
  · intro h
    obtain ⟨x, hx, rfl⟩ := List.mem_map.1 h
    obtain ⟨h1, h2⟩ := List.mem_filter.1 hx
    simp only [Bool.and_eq_true, decide_eq_true_eq] at h2
    have hg := getS_mem r.srt h1
    have he : endOf S x.key = x.e := by rw [endOf_get, hg]; rfl
    have hl := r.lk x.key
    rw [he, if_neg (by omega)] at hl
    exact List.mem_filter.2 ⟨lkp_mem hl, by simp [h2.2]⟩
theorem nodup_len : ∀ {a b : List ByteArray}, a.Nodup → (∀ x ∈ a, x ∈ b) → a.length ≤ b.length
  | [], _, _, _ => Nat.zero_le _
  | x :: a, b, hn, hs => by
    rw [List.nodup_cons] at hn
    have hx := hs x (by simp)
    have ih := nodup_len (a := a) (b := b.filter fun y => !decide (y = x)) hn.2 fun y hy => List.mem_filter.2 ⟨hs y (by simp [hy]), by
      have : ¬ y = x := fun e => hn.1 (by rw [← e]; exact hy)
      simp [this]⟩
    have h1 : (b.filter fun y => !decide (y = x)).length < b.length := List.length_filter_lt_length_iff_exists.2 ⟨x, hx, by simp⟩
    simp only [List.length_cons]
    omega
theorem StR.elen (r : StR H c m E S now) : E.length ≤ 20000 := by
  have h1 : (E.map (·.1)).length ≤ (S.map (·.key)).length := nodup_len r.nd fun k hk => by
    obtain ⟨p, hp, rfl⟩ := List.mem_map.1 hk
    obtain ⟨x, hx, e1, _⟩ := r.ent hp
    exact List.mem_map.2 ⟨x, hx, e1⟩
  have := r.len
  simp at h1
  omega

theorem q_waiting (r : StR H c m E S now) : ∃ v H', CC F.expire_Store_waiting [pt c] H = some (v, H') ∧ Own EStr H' T.string v (wS S now) ∧ (∀ b, blockOf v = some b → H.n ≤ b ∧ b < H'.n) ∧ Still H H' ∧ (wS S now = [] → v = .slice none 0 0 ∧ H' = H) := by
  have hp : prims1 F.expire_Store_waiting = some waitP := by kernel_rfl
  obtain ⟨v0, f0, _⟩ := r.md
  have f0 : H.f c = .cells [v0, .map m, .int .i64 (now : Int)] T.expire_Store true := f0
  have hw : wS S now = (sortE ((E.map conv).filter fun k => decide (k.2 ≤ (now : Int)))).map fun k => ⟨k.1.toArray⟩ := by
    unfold wS
    rw [sortE_eq r.due]
  have hlen : ((E.map conv).filter fun k => decide (k.2 ≤ (now : Int))).length = (wS S now).length := by rw [hw, List.length_map, (sortE_perm _).length_eq]
  cases hm : m with
  | none =>
    subst hm
    have hE : E = [] := r.mi
    have hw0 : wS S now = [] := by rw [hw, hE]; rfl
    refine ⟨.slice none 0 0, H, D_prim hp ?_, .inl ⟨hw0, rfl⟩, fun b h => (by cases h), Fr.refl H, fun _ => ⟨rfl, rfl⟩⟩
    unfold waitP
    simp only [f0, List.getElem?_cons_zero, List.getElem?_cons_succ, Nat.zero_add]
  | some mb =>
    subst hm
    obtain ⟨b1, b2, b3⟩ := r.mi
    have hes := entS_ents r.ents_ok
    have hel : (entsOf E).length ≤ 1000000 := by unfold entsOf; rw [List.length_map]; have := r.elen; omega
    by_cases he : ((E.map conv).filter fun k => decide (k.2 ≤ (now : Int))).isEmpty = true
    · have hw0 : wS S now = [] := List.length_eq_zero_iff.1 (by rw [← hlen, List.isEmpty_iff.1 he]; rfl)
      refine ⟨.slice none 0 0, H, D_prim hp ?_, .inl ⟨hw0, rfl⟩, fun b h => (by cases h), Fr.refl H, fun _ => ⟨rfl, rfl⟩⟩
      unfold waitP
      simp only [f0, List.getElem?_cons_zero, List.getElem?_cons_succ, Nat.zero_add, b1, hes]
      rw [if_pos hel, if_pos he]
    · have hne : wS S now ≠ [] := fun h => he (by rw [List.isEmpty_iff]; exact List.length_eq_zero_iff.1 (by rw [hlen, h]; rfl))
      obtain ⟨H1, hH1⟩ : ∃ H1, H.push (.cells (EStr.cells (wS S now)) 9 true) = H1 := ⟨_, rfl⟩
      have hcells : (sortE ((E.map conv).filter fun k => decide (k.2 ≤ (now : Int)))).map (fun k => Value.string ⟨k.1.toArray⟩) = EStr.cells (wS S now) := by
        rw [EStr_cells, hw, List.map_map]
        rfl
      have s1 : Still H H1 := by rw [← hH1]; exact (Fr.refl H).push _
      have n1 : H1.n = H.n + 1 := by rw [← hH1]; rfl
      refine ⟨.slice (some ⟨H.n, 0, none⟩) (wS S now).length (2 * (wS S now).length + 1), H1, D_prim hp ?_, ?_, fun b hb => (by cases hb; exact ⟨Nat.le_refl _, by show H.n < H1.n; omega⟩), s1, fun h => absurd h hne⟩
      · unfold waitP
        simp only [f0, List.getElem?_cons_zero, List.getElem?_cons_succ, Nat.zero_add, b1, hes]
        rw [if_pos hel, if_neg he, hcells, hlen, hH1]
      · refine .inr (.inr ⟨H.n, 0, (wS S now).length, EStr.cells (wS S now), rfl, Nat.le_refl _, by omega, by rw [← hH1]; exact push_f_eq rfl, by rw [EStr.cells_len, Nat.zero_add], ?_⟩)
        rw [List.drop_zero, List.take_of_length_le (by rw [EStr.cells_len]; exact Nat.le_refl _)]

theorem q_Waiting (r : StR H c m E S now) : CC F.expire_Store_Waiting [pt c] H = some (.int .i64 ((wS S now).length : Int), H) := by
  obtain ⟨v, H1, e, o, _, s1, _⟩ := q_waiting r
  have hl := o.rd.lenS
  refine pure_of (H' := H1) ?_ (d_expire_Store_Waiting _ H) rfl s1
  simp (disch := first | with_reducible rfl | assumption | omega | rfl | (simp only [go_sem]; first | done | omega)) only [go_sem, ↓reduceIte, reduceCtorEq, Nat.reduceEqDiff, Nat.reduceAdd, Nat.reduceSub, Nat.reduceMul, Nat.reduceDiv, Nat.reduceMod, Nat.reduceLeDiff, Nat.reduceLT, Nat.reduceBEq, Int.reduceEq, Int.reduceBEq, Int.reduceBNe, Int.reduceLT, Int.reduceLE, Int.reduceAdd, Int.reduceSub, Int.reduceNeg, Int.reduceToNat, Int.reducePow, Nat.reducePow, Int.reduceMul, Int.reduceDiv, ↓s_expire_Store_Waiting, ↓enterK_eq e, enterK_eq e, hl]
theorem wS_le (S : List En) (now : Nat) : (wS S now).length ≤ S.length := by
  rw [wS_len]
  exact List.length_filter_le _ _
theorem q_xLen (r : StR H c m E S now) : CC F.expire_Store_Len [pt c] H = some (.int .i64 ((S.length - (wS S now).length : Nat) : Int), H) := by
  have e1 := q_Len c (pl S) H r.md
  have e2 := q_Waiting r
  have h := wS_le S now
  have hlen := r.len
  have hpl : (pl S).length = S.length := by simp [pl]
  rw [hpl] at e1
  have e : ((S.length - (wS S now).length : Nat) : Int) = (S.length : Int) - ((wS S now).length : Int) := by omega
  rw [e]
  apply pure_of _ (d_expire_Store_Len _ H) rfl
  rotate_left 2
  · simp (disch := first | with_reducible rfl | assumption | omega | rfl | (simp only [go_sem]; first | done | omega)) only [go_sem, ↓reduceIte, reduceCtorEq, Nat.reduceEqDiff, Nat.reduceAdd, Nat.reduceSub, Nat.reduceMul, Nat.reduceDiv, Nat.reduceMod, Nat.reduceLeDiff, Nat.reduceLT, Nat.reduceBEq, Int.reduceEq, Int.reduceBEq, Int.reduceBNe, Int.reduceLT, Int.reduceLE, Int.reduceAdd, Int.reduceSub, Int.reduceNeg, Int.reduceToNat, Int.reducePow, Nat.reducePow, Int.reduceMul, Int.reduceDiv, ↓s_expire_Store_Len, ↓enterK_eq e1, enterK_eq e1, ↓enterK_eq e2, enterK_eq e2]
    rfl
  · (repeat (first | exact Fr.refl _ | refine Fr.push ?_ _ | refine Fr.set ?_ _ _ (by intro h; first | omega | (simp only [go_sem] at h; omega))))
end

/-! ### Sweep -/
def sweepS (S : List En) (ks : List ByteArray) : List En := ks.foldl delR S
theorem UpX.trans {H H1 H2 : AHeap} {c : Nat} (hc : ∀ b, OB H c b → b < H.n) (a : UpX H c H1) (b : UpX H1 c H2) : UpX H c H2 := by
  have n1 := a.fr.n
  refine ⟨a.fr.then b.fr fun x hx h => ?_, fun x h => ?_⟩
  · rcases a.ob x h with h | h
    · exact h
    · omega
  · rcases b.ob x h with h | h
    · exact a.ob x h
    · exact .inr (by omega)
theorem hi_blk {e : TypeId} {H : AHeap} {v v' : Value} {l : List ByteArray} (o : Own EStr H e v l) {i : Nat} (hi : i ≤ l.length) (h : slS e 1 v none (some (.int .i64 (i : Int))) none H = some v') : ∀ b, blockOf v' = some b → blockOf v = some b := by
  rcases o with ⟨rfl, rfl⟩ | ⟨rfl, ⟨b, o, s⟩, rfl, hs, hbb⟩ | ⟨b, o, c, xs, rfl, hl, hbn, hf, ho, hx⟩
  · simp only [List.length_nil, Nat.le_zero_eq] at hi
    subst hi
    have h0 : slS e 1 (.slice none 0 0) none (some (.int .i64 ((0 : Nat) : Int))) none H = some (.slice none 0 0) := rfl
    rw [h0] at h
    cases h
    exact fun b hb => hb
  · simp only at hs
    subst hs
    simp only [List.length_nil, Nat.le_zero_eq] at hi
    subst hi
    have h0 : slS e 1 (.slice (some ⟨b, o, none⟩) 0 0) none (some (.int .i64 ((0 : Nat) : Int))) none H = some (.slice (some ⟨b, o, none⟩) 0 0) := by simp [slS, lowOf, highOf, bnd]
    have h : slS e 1 (.slice (some ⟨b, o, none⟩) 0 0) none (some (.int .i64 ((0 : Nat) : Int))) none H = some v' := h
    rw [h0] at h
    cases h
    exact fun b hb => hb
  · have h0 := sl_hi (e := e) (o := o) (sz := 1) (n := l.length) (q := .i64) hf (Nat.le_trans hi hl)
    rw [h0] at h
    cases h
    exact fun b hb => hb

section
variable {H : AHeap} {c : Nat} {m : Option Nat} {E : Ec} {S : List En} {now : Nat}
theorem l_sweep {v : Value} {ks : List ByteArray} (hk : ∀ k ∈ ks, chk k [] = 0) (hkn : ks.length ≤ 4611686018427387904) : ∀ (r : List ByteArray) (i : Nat) (E : Ec) (S : List En) (H : AHeap), ks.drop i = r → i ≤ ks.length → Ok H → StR H c m E S now → Rd EStr H v ks → (∀ b, blockOf v = some b → b < H.n ∧ ¬ OB H c b) →
    ∃ E' H', (∀ K, l_expire_Store_Sweep_0 (pt c) v v (.int .i64 (ks.length : Int)) (.int .i64 (i : Int)) H (blkK [6] 1 K) = K .normal [(6, v)] H') ∧ StR H' c m E' (sweepS S r) now ∧ UpX H c H' ∧ Rd EStr H' v ks
  | [], i, E, S, H, hd, hi, ok, st, rd, hb => by
    have h : ks.length ≤ i := List.drop_eq_nil_iff.1 hd
    have hlt : ¬ (i : Int) < (ks.length : Int) := by omega
    refine ⟨E, H, fun K => ?_, st, UpX.refl H c, rd⟩
    rw [r_expire_Store_Sweep_0]
    simp (disch := first | with_reducible rfl | assumption | omega | rfl | (simp only [go_sem]; first | done | omega)) only [go_sem, ↓reduceIte, reduceCtorEq, Nat.reduceEqDiff, Nat.reduceAdd, Nat.reduceSub, Nat.reduceMul, Nat.reduceDiv, Nat.reduceMod, Nat.reduceLeDiff, Nat.reduceLT, Nat.reduceBEq, Int.reduceEq, Int.reduceBEq, Int.reduceBNe, Int.reduceLT, Int.reduceLE, Int.reduceAdd, Int.reduceSub, Int.reduceNeg, Int.reduceToNat, Int.reducePow, Nat.reducePow, Int.reduceMul, Int.reduceDiv, ↓s_expire_Store_Sweep_b0, hlt]
  | k :: r, i, E, S, H, hd, hi, ok, st, rd, hb => by
    have hlt0 : i < ks.length := by
      rcases Nat.lt_or_ge i ks.length with h | h
      · exact h
      · rw [List.drop_eq_nil_of_le h] at hd; cases hd
    have ha : ks[i] = k := by rw [List.drop_eq_getElem_cons hlt0] at hd; exact (List.cons.inj hd).1
    have hd' : ks.drop (i + 1) = r := by rw [List.drop_eq_getElem_cons hlt0] at hd; exact (List.cons.inj hd).2
    have hlt : (i : Int) < (ks.length : Int) := by omega
    obtain ⟨bb, o, ix, hbn, hcc, hbl⟩ := rd.ix (q := .i64) hlt0
    have ix : ixS 1 v (.int .i64 i) = some (.pointer (some ⟨bb, o, none⟩)) := ix
    have c0 : cellB (H.f bb) o = some (.string k) := by
      have := cutB_cell hcc (i := 0) (by decide)
      rw [ha] at this
      exact this
    obtain ⟨w, H1, v1, H2, e1, f1, l1, r2, u2⟩ := q_takeOut ok st k (hk k (by rw [← ha]; exact List.getElem_mem _))
    have ok2 : Ok H2 := u2.fr.ok ok
    have n2 := u2.fr.n
    have rd2 : Rd EStr H2 v ks := rd.keep u2.fr fun b hb' h => (hb b hb').2 h
    obtain ⟨E', H', g1, g2, g3, g4⟩ := l_sweep hk hkn r (i + 1) _ _ H2 hd' (by omega) ok2 r2 rd2 (fun b hb' => by
      obtain ⟨a1, a2⟩ := hb b hb'
      exact ⟨by omega, fun h => by
        rcases u2.ob b h with h | h
        · exact a2 h
        · omega⟩)
    refine ⟨E', H', fun K => ?_, g2, UpX.trans (fun b h => st.lt h) u2 g3, g4⟩
    have ih := g1 K
    rw [Int.natCast_add] at ih
    rw [r_expire_Store_Sweep_0]
    simp (disch := first | with_reducible rfl | assumption | omega | rfl | (simp only [go_sem]; first | done | omega)) only [go_sem, ↓reduceIte, reduceCtorEq, Nat.reduceEqDiff, Nat.reduceAdd, Nat.reduceSub, Nat.reduceMul, Nat.reduceDiv, Nat.reduceMod, Nat.reduceLeDiff, Nat.reduceLT, Nat.reduceBEq, Int.reduceEq, Int.reduceBEq, Int.reduceBNe, Int.reduceLT, Int.reduceLE, Int.reduceAdd, Int.reduceSub, Int.reduceNeg, Int.reduceToNat, Int.reducePow, Nat.reducePow, Int.reduceMul, Int.reduceDiv, ↓s_expire_Store_Sweep_b0, hlt, ix, c0, ↓enterK_eq e1, enterK_eq e1, f1, l1]
    exact ih

theorem q_xSweep (ok : Ok H) (r : StR H c m E S now) (n : Int) :
    ∃ v m' E' H', CC F.expire_Store_Sweep [pt c, .int .i64 n] H = some (.tuple #[v, .int .i64 (if n < 1 then 2 else 0)], H') ∧ Rd EStr H' v (if n < 1 then [] else (wS S now).take n.toNat) ∧ StR H' c m' E' (sweepS S (if n < 1 then [] else (wS S now).take n.toNat)) now ∧ UpX H c H' ∧
      (∀ b, blockOf v = some b → H.n ≤ b ∧ b < H'.n ∧ ¬ OB H' c b) := by
  by_cases hn : n < 1
  · rw [if_pos hn, if_pos hn]
    refine ⟨.slice none 0 0, m, E, H, ?_, .inl ⟨rfl, rfl⟩, r, UpX.refl H c, fun b h => (by cases h)⟩
    apply pure_of _ (d_expire_Store_Sweep _ _ H) rfl
    rotate_left 2
    · simp (disch := first | with_reducible rfl | assumption | omega | rfl | (simp only [go_sem]; first | done | omega)) only [go_sem, ↓reduceIte, reduceCtorEq, Nat.reduceEqDiff, Nat.reduceAdd, Nat.reduceSub, Nat.reduceMul, Nat.reduceDiv, Nat.reduceMod, Nat.reduceLeDiff, Nat.reduceLT, Nat.reduceBEq, Int.reduceEq, Int.reduceBEq, Int.reduceBNe, Int.reduceLT, Int.reduceLE, Int.reduceAdd, Int.reduceSub, Int.reduceNeg, Int.reduceToNat, Int.reducePow, Nat.reducePow, Int.reduceMul, Int.reduceDiv, ↓s_expire_Store_Sweep, hn]
      rfl
    · (repeat (first | exact Fr.refl _ | refine Fr.push ?_ _ | refine Fr.set ?_ _ _ (by intro h; first | omega | (simp only [go_sem] at h; omega))))
  rw [if_neg hn, if_neg hn]
  obtain ⟨N, rfl⟩ : ∃ N : Nat, n = (N : Int) := ⟨n.toNat, by omega⟩
  rw [Int.toNat_natCast]
  obtain ⟨v0, H1, e0, o0, hb0, s1, hnil⟩ := q_waiting r
  have hl := o0.rd.lenS
  have n1 := s1.n
  obtain ⟨I, hI⟩ : ∃ I, min N (wS S now).length = I := ⟨_, rfl⟩
  have hIl : I ≤ (wS S now).length := by omega
  have hmin : min (N : Int) ((wS S now).length : Int) = (I : Int) := by omega
  obtain ⟨v1, hs1, rd1⟩ := o0.hi (sz := 1) rfl hIl (q := .i64)
  have hs1 : slS T.string 1 v0 none (some (.int .i64 (I : Int))) none H1 = some v1 := hs1
  have hbl := hi_blk o0 hIl hs1
  have htake : (wS S now).take I = (wS S now).take N := by
    rcases Nat.le_total N (wS S now).length with h | h
    · rw [show I = N by omega]
    · rw [show I = (wS S now).length by omega, List.take_length, List.take_of_length_le h]
  rw [htake] at rd1
  have hl1 := rd1.lenS
  have hkc : ∀ k ∈ (wS S now).take N, chk k [] = 0 := fun k hk => by
    obtain ⟨x, hx, rfl, _⟩ := wS_mem.1 (List.mem_of_mem_take hk)
    exact r.keys x hx
  have hwl := wS_le S now
  have hlen := r.len
  have hcl : c < H.n := r.lt (.inl rfl)
  have hob1 : ∀ b, OB H1 c b ↔ OB H c b := fun b => ob_still hcl s1 (fun h => h)
  have r1 := r.still s1
  have htl : ((wS S now).take N).length ≤ (wS S now).length := by rw [List.length_take]; omega
  obtain ⟨E', H', g1, g2, g3, g4⟩ := l_sweep (v := v1) hkc (by omega) ((wS S now).take N) 0 E S H1 rfl (Nat.zero_le _) (s1.ok ok) r1 rd1 (fun b hb => by
    have := hb0 b (hbl b hb)
    exact ⟨this.2, fun h => by have := r.lt ((hob1 b).1 h); omega⟩)
  have u : UpX H c H' := ⟨s1.still.then g3.fr fun b _ h => (hob1 b).1 h, fun b h => by
    rcases g3.ob b h with h | h
    · exact .inl ((hob1 b).1 h)
    · exact .inr (by omega)⟩
  have g1 : ∀ K, l_expire_Store_Sweep_0 (pt c) v1 v1 (.int .i64 (((wS S now).take N).length : Int)) (.int .i64 0) H1 (blkK [6] 1 K) = K .normal [(6, v1)] H' := g1
  have run : s_expire_Store_Sweep guardK condL shareL Try.prog CC l_expire_Store_Sweep_0 (pt c) (.int .i64 (N : Int)) H (endK Try.prog [.tmp 4, .tmp 5]) = some (.tuple #[v1, .int .i64 0], H') := by
    simp (disch := first | with_reducible rfl | assumption | omega | rfl | (simp only [go_sem]; first | done | omega)) only [go_sem, ↓reduceIte, reduceCtorEq, Nat.reduceEqDiff, Nat.reduceAdd, Nat.reduceSub, Nat.reduceMul, Nat.reduceDiv, Nat.reduceMod, Nat.reduceLeDiff, Nat.reduceLT, Nat.reduceBEq, Int.reduceEq, Int.reduceBEq, Int.reduceBNe, Int.reduceLT, Int.reduceLE, Int.reduceAdd, Int.reduceSub, Int.reduceNeg, Int.reduceToNat, Int.reducePow, Nat.reducePow, Int.reduceMul, Int.reduceDiv, ↓s_expire_Store_Sweep, hn, ↓enterK_eq e0, enterK_eq e0, hl, hmin, hs1, hl1, g1]
  have hbk : ∀ b, blockOf v1 = some b → H.n ≤ b ∧ b < H'.n ∧ ¬ OB H' c b := fun b hb => by
    have h := hb0 b (hbl b hb)
    have := g3.fr.n
    exact ⟨h.1, by omega, fun hh => by
      rcases g3.ob b hh with hh | hh
      · have := r.lt ((hob1 b).1 hh); omega
      · omega⟩
  by_cases hnone : (wS S now).take N = []
  · -- nothing has ended: the call is forgotten
    have hw0 : wS S now = [] := by
      have h := congrArg List.length hnone
      rw [List.length_take] at h
      have h : min N (wS S now).length = 0 := h
      exact List.length_eq_zero_iff.1 (by omega)
    obtain ⟨hv0, _⟩ := hnil hw0
    subst hv0
    have hI0 : I = 0 := by rw [hw0] at hI; simpa using hI.symm
    have hv1 : v1 = .slice none 0 0 := by
      rw [hI0] at hs1
      have h0 : slS T.string 1 (.slice none 0 0) none (some (.int .i64 ((0 : Nat) : Int))) none H1 = some (.slice none 0 0) := rfl
      rw [h0] at hs1
      cases hs1
      rfl
    subst hv1
    obtain ⟨m2, E2, H3, ht, r3, u3⟩ := tidyX (v := .tuple #[.slice none 0 0, .int .i64 0]) ok r g2 u
    exact ⟨.slice none 0 0, m2, E2, H3, (d_expire_Store_Sweep _ _ H run).trans (congrArg some ht), .inl ⟨hnone, rfl⟩, r3, u3, fun b h => (by cases h)⟩
  · have hv1 : ∃ b o n code, v1 = .slice (some ⟨b, o, none⟩) n code := by
      rcases rd1 with ⟨h, _⟩ | ⟨h, _⟩ | ⟨b, o, code, h, _⟩
      · exact absurd h hnone
      · exact absurd h hnone
      · exact ⟨_, _, _, _, h⟩
    obtain ⟨b, o, nn, code, rfl⟩ := hv1
    exact ⟨_, m, E', H', (d_expire_Store_Sweep _ _ H run).trans (congrArg some (tidy_mem rfl)), g4, g2, u, hbk⟩
end

end Go.Proofs.Ythjjkinpbpealaa

/-
  Chapter 45: a store: the keys that are alive.
  Conditions: none. By an AI agent.
-/
set_option maxRecDepth 10000
set_option linter.unusedSimpArgs false
set_option linter.unusedVariables false
namespace Go.Proofs.Ythjjkinpbpealaa
open Go Eng
attribute [local congr] bareK_congr' bothK_congr' quietK_congr'

section
variable {H : AHeap} {c : Nat} {m : Option Nat} {E : Ec} {S : List En} {now : Nat}

def pB (S : List En) (now : Nat) (a : Pr) : Bool := endB S now a.key
abbrev clo (bx : Nat) : Value := .func (.func F.expire_Store_Alive_1) #[] #[.pointer (some ⟨bx, 0, none⟩)]

theorem q_alive1 (ok : Ok H) (r : StR H c m E S now) {bx : Nat} (hx : H.f bx = .cells [pt c] T.p_expire_Store true) (hb : bx < H.n) (a : Pr) : CC F.expire_Store_Alive_1 [.agg #[.string a.key, .string a.value], pt bx] H = some (.bool (pB S now a), H) := by
  obtain ⟨H1, hH1⟩ : ∃ H1, H.push (.cells [.string a.key, .string a.value] T.api_Pair true) = H1 := ⟨_, rfl⟩
  have s1 : Still H H1 := by rw [← hH1]; exact (Fr.refl H).push _
  have f1 : H1.f H.n = .cells [.string a.key, .string a.value] T.api_Pair true := by rw [← hH1]; exact push_f_eq rfl
  have fx : H1.f bx = .cells [pt c] T.p_expire_Store true := by rw [s1.f hb (fun h => h)]; exact hx
  have e := q_ended (r.still s1) a.key
  unfold pB
  refine pure_of (H' := H1) ?_ (d_expire_Store_Alive_1 _ _ H) rfl s1
  simp (disch := first | with_reducible rfl | assumption | omega | rfl | (simp only [go_sem]; first | done | omega)) only [go_sem, ↓reduceIte, reduceCtorEq, Nat.reduceEqDiff, Nat.reduceAdd, Nat.reduceSub, Nat.reduceMul, Nat.reduceDiv, Nat.reduceMod, Nat.reduceLeDiff, Nat.reduceLT, Nat.reduceBEq, Int.reduceEq, Int.reduceBEq, Int.reduceBNe, Int.reduceLT, Int.reduceLE, Int.reduceAdd, Int.reduceSub, Int.reduceNeg, Int.reduceToNat, Int.reducePow, Nat.reducePow, Int.reduceMul, Int.reduceDiv, ↓s_expire_Store_Alive_1, hH1, fx, f1, ↓enterK_eq e, enterK_eq e]

def idxP (p : Pr → Bool) : List Pr → Nat → Int
  | [], _ => -1
  | a :: l, i => if p a then (i : Int) else idxP p l (i + 1)
theorem drop_pr {l m : List Pr} {a : Pr} {i : Nat} (h : l.drop i = a :: m) : ∃ hi : i < l.length, l[i] = a ∧ l.drop (i + 1) = m := by
  have hi : i < l.length := by
    by_cases hi : i < l.length
    · exact hi
    · rw [List.drop_eq_nil_of_le (by omega)] at h; cases h
  rw [List.drop_eq_getElem_cons hi] at h
  cases h
  exact ⟨hi, rfl, rfl⟩
theorem l_indexP (ok : Ok H) (r : StR H c m E S now) {bx : Nat} (hx : H.f bx = .cells [pt c] T.p_expire_Store true) (hb : bx < H.n) {v : Value} {l : List Pr} (rd : Rd EPr H v l) (hl : l.length ≤ 20000) (K : K) : ∀ (q : List Pr) (i : Nat), l.drop i = q → i ≤ l.length →
    l_slices_IndexFunc_Pair_0 v (clo bx) (.int .i64 (l.length : Int)) (.int .i64 (i : Int)) H (blkK [] 0 (seqK (fun _ h2 => K .ret [(4, .int .i64 (-1))] h2) K)) = K .ret [(4, .int .i64 (idxP (pB S now) q i))] H
  | [], i, hd, hi => by
    have h : l.length ≤ i := List.drop_eq_nil_iff.1 hd
    have hlt : ¬ (i : Int) < (l.length : Int) := by omega
    rw [r_slices_IndexFunc_Pair_0]
    simp (disch := first | with_reducible rfl | assumption | omega | rfl | (simp only [go_sem]; first | done | omega)) only [go_sem, ↓reduceIte, reduceCtorEq, Nat.reduceEqDiff, Nat.reduceAdd, Nat.reduceSub, Nat.reduceMul, Nat.reduceDiv, Nat.reduceMod, Nat.reduceLeDiff, Nat.reduceLT, Nat.reduceBEq, Int.reduceEq, Int.reduceBEq, Int.reduceBNe, Int.reduceLT, Int.reduceLE, Int.reduceAdd, Int.reduceSub, Int.reduceNeg, Int.reduceToNat, Int.reducePow, Nat.reducePow, Int.reduceMul, Int.reduceDiv, ↓s_slices_IndexFunc_Pair_b0, hlt, idxP]
  | a :: q, i, hd, hi => by
    obtain ⟨h, ha, hd'⟩ := drop_pr hd
    have hlt : (i : Int) < (l.length : Int) := by omega
    obtain ⟨bb, o, ix, hbn, hcc, hbl⟩ := rd.ix (q := .i64) h
    have ix : ixS 2 v (.int .i64 i) = some (.pointer (some ⟨bb, o, none⟩)) := ix
    rw [ha] at hcc
    have hcc : cutB (H.f bb) o 2 = some [.string a.key, .string a.value] := hcc
    have e := q_alive1 ok r hx hb a
    rw [r_slices_IndexFunc_Pair_0, idxP]
    cases hp : pB S now a with
    | true =>
      rw [hp] at e
      rw [if_pos rfl]
      simp (disch := first | with_reducible rfl | assumption | omega | rfl | (simp only [go_sem]; first | done | omega)) only [go_sem, ↓reduceIte, reduceCtorEq, Nat.reduceEqDiff, Nat.reduceAdd, Nat.reduceSub, Nat.reduceMul, Nat.reduceDiv, Nat.reduceMod, Nat.reduceLeDiff, Nat.reduceLT, Nat.reduceBEq, Int.reduceEq, Int.reduceBEq, Int.reduceBNe, Int.reduceLT, Int.reduceLE, Int.reduceAdd, Int.reduceSub, Int.reduceNeg, Int.reduceToNat, Int.reducePow, Nat.reducePow, Int.reduceMul, Int.reduceDiv, ↓s_slices_IndexFunc_Pair_b0, hlt, ix, hcc, c_expire_Store_Alive_1, ↓enterK_eq e, enterK_eq e]
    | false =>
      rw [hp] at e
      rw [if_neg (by decide)]
      have ih := l_indexP ok r hx hb rd hl K q (i + 1) hd' (by omega)
      rw [Int.natCast_add] at ih
      simp (disch := first | with_reducible rfl | assumption | omega | rfl | (simp only [go_sem]; first | done | omega)) only [go_sem, ↓reduceIte, reduceCtorEq, Nat.reduceEqDiff, Nat.reduceAdd, Nat.reduceSub, Nat.reduceMul, Nat.reduceDiv, Nat.reduceMod, Nat.reduceLeDiff, Nat.reduceLT, Nat.reduceBEq, Int.reduceEq, Int.reduceBEq, Int.reduceBNe, Int.reduceLT, Int.reduceLE, Int.reduceAdd, Int.reduceSub, Int.reduceNeg, Int.reduceToNat, Int.reducePow, Nat.reducePow, Int.reduceMul, Int.reduceDiv, ↓s_slices_IndexFunc_Pair_b0, hlt, ix, hcc, c_expire_Store_Alive_1, ↓enterK_eq e, enterK_eq e]
      exact ih
theorem q_indexP (ok : Ok H) (r : StR H c m E S now) {bx : Nat} (hx : H.f bx = .cells [pt c] T.p_expire_Store true) (hb : bx < H.n) {v : Value} {l : List Pr} (rd : Rd EPr H v l) (hl : l.length ≤ 20000) : CC F.slices_IndexFunc_Pair [v, clo bx] H = some (.int .i64 (idxP (pB S now) l 0), H) := by
  have hloop := fun K => l_indexP ok r hx hb rd hl K l 0 rfl (Nat.zero_le _)
  have hloop : l_slices_IndexFunc_Pair_0 v (clo bx) (.int .i64 (l.length : Int)) (.int .i64 0) H (blkK [] 0 (seqK (fun _ h2 => some (.int .i64 (-1), h2)) (endK Try.prog [.tmp 4]))) = some (.int .i64 (idxP (pB S now) l 0), H) := hloop (endK Try.prog [.tmp 4])
  have hlen := rd.lenS
  apply pure_of _ (d_slices_IndexFunc_Pair _ _ H) rfl
  rotate_left 2
  · simp (disch := first | with_reducible rfl | assumption | omega | rfl | (simp only [go_sem]; first | done | omega)) only [go_sem, ↓reduceIte, reduceCtorEq, Nat.reduceEqDiff, Nat.reduceAdd, Nat.reduceSub, Nat.reduceMul, Nat.reduceDiv, Nat.reduceMod, Nat.reduceLeDiff, Nat.reduceLT, Nat.reduceBEq, Int.reduceEq, Int.reduceBEq, Int.reduceBNe, Int.reduceLT, Int.reduceLE, Int.reduceAdd, Int.reduceSub, Int.reduceNeg, Int.reduceToNat, Int.reducePow, Nat.reducePow, Int.reduceMul, Int.reduceDiv, ↓s_slices_IndexFunc_Pair, hlen]
    exact hloop
  · (repeat (first | exact Fr.refl _ | refine Fr.push ?_ _ | refine Fr.set ?_ _ _ (by intro h; first | omega | (simp only [go_sem] at h; omega))))
theorem idxP_spec (p : Pr → Bool) : ∀ (l : List Pr) (i : Nat), (idxP p l i = -1 ∧ l.filter (fun a => !p a) = l) ∨ ∃ j, idxP p l i = ((i + j : Nat) : Int) ∧ j < l.length ∧ (l.take (j + 1)).filter (fun a => !p a) = l.take j
  | [], i => .inl ⟨rfl, rfl⟩
  | a :: l, i => by
    rw [idxP]
    cases hp : p a with
    | true => exact .inr ⟨0, by simp, by simp, by simp [hp]⟩
    | false =>
      rw [if_neg (by decide)]
      rcases idxP_spec p l (i + 1) with ⟨h1, h2⟩ | ⟨j, h1, h2, h3⟩
      · exact .inl ⟨h1, by rw [List.filter_cons, hp]; simp [h2]⟩
      · refine .inr ⟨j + 1, by rw [h1]; congr 1; omega, by simp; omega, ?_⟩
        rw [List.take_succ_cons, List.filter_cons, hp, List.take_succ_cons, ← h3]
        simp

theorem l_delP {bx : Nat} {v : Value} {l : List Pr} (hl : l.length ≤ 20000) : ∀ (q : List Pr) (i j : Nat) (cur : List Pr) (H : AHeap), l.drop j = q → j ≤ l.length → i ≤ j → Ok H → StR H c m E S now → H.f bx = .cells [pt c] T.p_expire_Store true → bx < H.n →
    Own EPr H T.api_Pair v cur → cur.length = l.length → cur.take i = (l.take j).filter (fun a => !pB S now a) → cur.drop j = l.drop j → (∀ b, blockOf v = some b → b < H.n ∧ b ≠ bx ∧ ¬ OB H c b) →
    ∃ (i' : Nat) (cur' : List Pr) (H' : AHeap), (∀ K, l_slices_DeleteFunc_Pair_0 v (clo bx) (.int .i64 (i : Int)) (.int .i64 (j : Int)) H (blkK [0, 5] 0 K) = K .normal [(0, v), (5, .int .i64 (i' : Int))] H') ∧ Own EPr H' T.api_Pair v cur' ∧ cur'.length = l.length ∧ i' ≤ l.length ∧ i' ≤ i + q.length ∧
      cur'.take i' = l.filter (fun a => !pB S now a) ∧ Fr (OnlyOf v) H H'
  | [], i, j, cur, H, hd, hj, hij, ok, r, hx, hb, ow, hcl, h1, h2, hv => by
    have h : l.length ≤ j := List.drop_eq_nil_iff.1 hd
    have hlt : ¬ (j : Int) < (l.length : Int) := by omega
    have hlen := ow.rd.lenS
    rw [hcl] at hlen
    refine ⟨i, cur, H, fun K => ?_, ow, hcl, by omega, by simp, ?_, Fr.refl H⟩
    · rw [r_slices_DeleteFunc_Pair_0]
      simp (disch := first | with_reducible rfl | assumption | omega | rfl | (simp only [go_sem]; first | done | omega)) only [go_sem, ↓reduceIte, reduceCtorEq, Nat.reduceEqDiff, Nat.reduceAdd, Nat.reduceSub, Nat.reduceMul, Nat.reduceDiv, Nat.reduceMod, Nat.reduceLeDiff, Nat.reduceLT, Nat.reduceBEq, Int.reduceEq, Int.reduceBEq, Int.reduceBNe, Int.reduceLT, Int.reduceLE, Int.reduceAdd, Int.reduceSub, Int.reduceNeg, Int.reduceToNat, Int.reducePow, Nat.reducePow, Int.reduceMul, Int.reduceDiv, ↓s_slices_DeleteFunc_Pair_b0, hlen, hlt]
    · rw [h1, List.take_of_length_le h]
  | a :: q, i, j, cur, H, hd, hj, hij, ok, r, hx, hb, ow, hcl, h1, h2, hv => by
    obtain ⟨h, ha, hd'⟩ := drop_pr hd
    have hlt : (j : Int) < (l.length : Int) := by omega
    have hlen := ow.rd.lenS
    rw [hcl] at hlen
    have hjc : j < cur.length := by omega
    obtain ⟨bb, o, ix, hbn, hcc, hbl⟩ := ow.rd.ix (q := .i64) hjc
    have ix : ixS 2 v (.int .i64 j) = some (.pointer (some ⟨bb, o, none⟩)) := ix
    have hca : cur[j] = a := by
      have h0 : cur[j]? = l[j]? := by
        have := congrArg (fun z => z[0]?) h2
        simpa using this
      rw [List.getElem?_eq_getElem hjc, List.getElem?_eq_getElem h] at h0
      exact (Option.some.inj h0).trans ha
    rw [hca] at hcc
    have hcc : cutB (H.f bb) o 2 = some [.string a.key, .string a.value] := hcc
    obtain ⟨H1, hH1⟩ : ∃ H1, H.push (.cells [.string (mk []), .string (mk [])] T.api_Pair true) = H1 := ⟨_, rfl⟩
    obtain ⟨H2, hH2⟩ : ∃ H2, H1.set H.n (.cells [.string a.key, .string a.value] T.api_Pair true) = H2 := ⟨_, rfl⟩
    have f1 : H1.f H.n = .cells [.string (mk []), .string (mk [])] T.api_Pair true := by rw [← hH1]; exact push_f_eq rfl
    have f2 : H2.f H.n = .cells [.string a.key, .string a.value] T.api_Pair true := by rw [← hH2]; exact set_f_eq
    have n1 : H1.n = H.n + 1 := by rw [← hH1]; rfl
    have n2 : H2.n = H.n + 1 := by rw [← hH2]; exact n1
    have s2 : Still H H2 := by rw [← hH2, ← hH1]; exact ((Fr.refl H).push _).set _ _ fun h => absurd h (Nat.lt_irrefl _)
    have r2 := r.still s2
    have ok2 : Ok H2 := s2.ok ok
    have hx2 : H2.f bx = .cells [pt c] T.p_expire_Store true := by rw [s2.f hb (fun h => h)]; exact hx
    have ow2 := ow.still s2
    have e := q_alive1 ok2 r2 hx2 (by omega) a
    have hcH : c < H.n := r.lt (.inl rfl)
    have hv2 : ∀ b, blockOf v = some b → b < H2.n ∧ b ≠ bx ∧ ¬ OB H2 c b := fun b hb' => by
      obtain ⟨a1, a2, a3⟩ := hv b hb'
      exact ⟨by omega, a2, fun h => a3 ((ob_still hcH s2 (fun h => h)).1 h)⟩
    have htk : l.take (j + 1) = l.take j ++ [a] := by rw [List.take_succ_eq_append_getElem h, ha]
    cases hp : pB S now a with
    | true =>
      rw [hp] at e
      have h1' : cur.take i = (l.take (j + 1)).filter (fun a => !pB S now a) := by rw [htk, List.filter_append, h1]; simp [hp]
      have h2' : cur.drop (j + 1) = l.drop (j + 1) := by rw [← List.drop_drop, ← List.drop_drop, h2]
      obtain ⟨i', cur', H', g1, g2, g3, g4, g5, g6, g7⟩ := l_delP hl q i (j + 1) cur H2 hd' (by omega) (by omega) ok2 r2 hx2 (by omega) ow2 hcl h1' h2' hv2
      refine ⟨i', cur', H', fun K => ?_, g2, g3, g4, by simp; omega, g6, s2.still.trans g7⟩
      have ih := g1 K
      rw [Int.natCast_add] at ih
      rw [r_slices_DeleteFunc_Pair_0]
      simp (disch := first | with_reducible rfl | assumption | omega | rfl | (simp only [go_sem]; first | done | omega)) only [go_sem, ↓reduceIte, reduceCtorEq, Nat.reduceEqDiff, Nat.reduceAdd, Nat.reduceSub, Nat.reduceMul, Nat.reduceDiv, Nat.reduceMod, Nat.reduceLeDiff, Nat.reduceLT, Nat.reduceBEq, Int.reduceEq, Int.reduceBEq, Int.reduceBNe, Int.reduceLT, Int.reduceLE, Int.reduceAdd, Int.reduceSub, Int.reduceNeg, Int.reduceToNat, Int.reducePow, Nat.reducePow, Int.reduceMul, Int.reduceDiv, ↓s_slices_DeleteFunc_Pair_b0, hlen, hlt, ix, hcc, hH1, f1, hH2, f2, c_expire_Store_Alive_1, ↓enterK_eq e, enterK_eq e, Bool.not_true]
      exact ih
    | false =>
      rw [hp] at e
      have hic : i < cur.length := by omega
      obtain ⟨b3, o3, H3, ix3, hw3, ow3, hbv3, hb3, hn3, fr3, hver3⟩ := Own.write ow2 hic a
      obtain ⟨a1, a2, a3⟩ := hv2 b3 hbv3
      have r3 : StR H3 c m E S now := r2.keep fr3 fun b _ h hh => a3 (by rw [← h]; exact hh)
      have ok3 : Ok H3 := fr3.ok ok2
      have hx3 : H3.f bx = .cells [pt c] T.p_expire_Store true := by rw [fr3.f (by omega) (fun h => a2 h.symm)]; exact hx2
      have h1' : (cur.set i a).take (i + 1) = (l.take (j + 1)).filter (fun a => !pB S now a) := by
        rw [htk, List.filter_append, ← h1, List.take_succ_eq_append_getElem (by simpa using hic), List.take_set_of_le (Nat.le_refl i)]
        simp [hp]
      have h2' : (cur.set i a).drop (j + 1) = l.drop (j + 1) := by
        rw [List.drop_set_of_lt (by omega), ← List.drop_drop, ← List.drop_drop, h2]
      have hv3 : ∀ b, blockOf v = some b → b < H3.n ∧ b ≠ bx ∧ ¬ OB H3 c b := fun b hb' => by
        obtain ⟨q1, q2, q3⟩ := hv2 b hb'
        have hcb : ¬ c = b3 := fun h => a3 (h ▸ .inl rfl)
        exact ⟨by omega, q2, fun h => q3 ((ob_still (by omega) fr3 hcb).1 h)⟩
      obtain ⟨i', cur', H', g1, g2, g3, g4, g5, g6, g7⟩ := l_delP hl q (i + 1) (j + 1) (cur.set i a) H3 hd' (by omega) (by omega) ok3 r3 hx3 (by omega) ow3 (by rw [List.length_set]; exact hcl) h1' h2' hv3
      have frv : Fr (OnlyOf v) H2 H3 := fr3.mono fun x _ h => by unfold OnlyOf; rw [h]; exact hbv3
      refine ⟨i', cur', H', fun K => ?_, g2, g3, g4, by simp; omega, g6, s2.still.trans (frv.trans g7)⟩
      have ih := g1 K
      rw [Int.natCast_add, Int.natCast_add] at ih
      rw [r_slices_DeleteFunc_Pair_0]
      simp (disch := first | with_reducible rfl | assumption | omega | rfl | (simp only [go_sem]; first | done | omega)) only [go_sem, ↓reduceIte, reduceCtorEq, Nat.reduceEqDiff, Nat.reduceAdd, Nat.reduceSub, Nat.reduceMul, Nat.reduceDiv, Nat.reduceMod, Nat.reduceLeDiff, Nat.reduceLT, Nat.reduceBEq, Int.reduceEq, Int.reduceBEq, Int.reduceBNe, Int.reduceLT, Int.reduceLE, Int.reduceAdd, Int.reduceSub, Int.reduceNeg, Int.reduceToNat, Int.reducePow, Nat.reducePow, Int.reduceMul, Int.reduceDiv, ↓s_slices_DeleteFunc_Pair_b0, hlen, hlt, ix, hcc, hH1, f1, hH2, f2, c_expire_Store_Alive_1, ↓enterK_eq e, enterK_eq e, Bool.not_false, ix3, hw3]
      exact ih

theorem clearP {b o n c : Nat} {H : AHeap} (hn : n ≠ 0) : xclear Try.prog [T.sl_api_Pair] (.slice (some ⟨b, o, none⟩) n c) H = (setB H b (wrL (H.f b) o (zeros [.string (mk []), .string (mk [])] n))).map fun H' => (.tuple #[], H') := by
  have h : Try.prog.underlying T.sl_api_Pair = some (.slice T.api_Pair) := Try.underlying24
  have hz : zrow Try.prog T.api_Pair = some [.string (mk []), .string (mk [])] := by kernel_rfl
  unfold xclear
  simp only [h, hn, if_false, hz, Option.bind_some, stL_b]
theorem zeros_len (n : Nat) : (zeros [.string (mk []), .string (mk [])] n).length = n * 2 := by
  induction n with
  | zero => rfl
  | succ n ih => simp only [zeros] at ih ⊢; simp [ih]; omega
theorem zeros_one (n : Nat) : (zeros [.string (mk []), .string (mk [])] n).all Eng.one = true := by
  induction n with
  | zero => rfl
  | succ n ih => simp only [zeros] at ih ⊢; simp [ih, Eng.one]

/-- The pairs that are alive. -/
def aliveS (S : List En) (now : Nat) : List Pr := (pl S).filter fun a => !pB S now a

theorem q_xAlive (ok : Ok H) (r : StR H c m E S now) : ∃ v H', CC F.expire_Store_Alive [pt c] H = some (v, H') ∧ Own EPr H' T.api_Pair v (aliveS S now) ∧ Still H H' ∧ ∀ b, blockOf v = some b → H.n ≤ b ∧ b < H'.n := by
  have hcH : c < H.n := r.lt (.inl rfl)
  have hlen := r.len
  have hpl : (pl S).length ≤ 20000 := by simpa [pl] using hlen
  obtain ⟨H1, hH1⟩ : ∃ H1, H.push (.cells [pt c] T.p_expire_Store true) = H1 := ⟨_, rfl⟩
  have s1 : Still H H1 := by rw [← hH1]; exact (Fr.refl H).push _
  have n1 : H1.n = H.n + 1 := by rw [← hH1]; rfl
  have fx1 : H1.f H.n = .cells [pt c] T.p_expire_Store true := by rw [← hH1]; exact push_f_eq rfl
  have r1 := r.still s1
  obtain ⟨v, H2, e2, ow, s2, new2⟩ := q_Pairs c (pl S) H1 r1.md (by omega)
  have n2 := s2.n
  have r2 := r1.still s2
  have ok2 : Ok H2 := s2.ok (s1.ok ok)
  have fx2 : H2.f H.n = .cells [pt c] T.p_expire_Store true := by rw [s2.f (by omega) (fun h => h)]; exact fx1
  have e3 := q_indexP ok2 r2 fx2 (by omega) ow.rd hpl
  have s12 : Still H H2 := s1.then s2 fun _ _ h => h
  have hvb : ∀ b, blockOf v = some b → H1.n ≤ b ∧ b < H2.n := fun b hb => ⟨new2 b hb, ow.blk hb⟩
  have fin : ∀ {v' : Value} {H' : AHeap}, Own EPr H' T.api_Pair v' (aliveS S now) → Still H H' → (∀ b, blockOf v' = some b → H.n ≤ b) → s_expire_Store_Alive guardK condL shareL Try.prog CC (pt c) H (endK Try.prog [.tmp 2]) = some (v', H') →
      ∃ v H', CC F.expire_Store_Alive [pt c] H = some (v, H') ∧ Own EPr H' T.api_Pair v (aliveS S now) ∧ Still H H' ∧ ∀ b, blockOf v = some b → H.n ≤ b ∧ b < H'.n := fun {v' H'} o s nb run => by
    obtain ⟨H'', h1, h2, h3, h4⟩ := own_tidied o s nb (d_expire_Store_Alive _ H run)
    exact ⟨v', H'', h1, h2, h3, fun b hb => ⟨nb b hb, h2.blk hb⟩⟩
  rcases idxP_spec (pB S now) (pl S) 0 with ⟨hi, hf⟩ | ⟨j, hi, hj, hf⟩
  · rw [hi] at e3
    have e4 : CC F.slices_DeleteFunc_Pair [v, clo H.n] H2 = some (v, H2) := by
      have run : s_slices_DeleteFunc_Pair guardK condL shareL Try.prog CC l_slices_DeleteFunc_Pair_0 v (clo H.n) H2 (endK Try.prog [.tmp 4]) = some (v, H2) := by
        simp (disch := first | with_reducible rfl | assumption | omega | rfl | (simp only [go_sem]; first | done | omega)) only [go_sem, ↓reduceIte, reduceCtorEq, Nat.reduceEqDiff, Nat.reduceAdd, Nat.reduceSub, Nat.reduceMul, Nat.reduceDiv, Nat.reduceMod, Nat.reduceLeDiff, Nat.reduceLT, Nat.reduceBEq, Int.reduceEq, Int.reduceBEq, Int.reduceBNe, Int.reduceLT, Int.reduceLE, Int.reduceAdd, Int.reduceSub, Int.reduceNeg, Int.reduceToNat, Int.reducePow, Nat.reducePow, Int.reduceMul, Int.reduceDiv, ↓s_slices_DeleteFunc_Pair, ↓enterK_eq e3, enterK_eq e3]
      have h := d_slices_DeleteFunc_Pair _ _ H2 run
      have ht : tidy H2 (v, H2) = (v, H2) := by unfold tidy; split <;> rfl
      rw [ht] at h
      exact h
    have ho : Own EPr H2 T.api_Pair v (aliveS S now) := by unfold aliveS; rw [hf]; exact ow
    refine fin ho s12 (fun b hb => by have := hvb b hb; omega) ?_
    simp (disch := first | with_reducible rfl | assumption | omega | rfl | (simp only [go_sem]; first | done | omega)) only [go_sem, ↓reduceIte, reduceCtorEq, Nat.reduceEqDiff, Nat.reduceAdd, Nat.reduceSub, Nat.reduceMul, Nat.reduceDiv, Nat.reduceMod, Nat.reduceLeDiff, Nat.reduceLT, Nat.reduceBEq, Int.reduceEq, Int.reduceBEq, Int.reduceBNe, Int.reduceLT, Int.reduceLE, Int.reduceAdd, Int.reduceSub, Int.reduceNeg, Int.reduceToNat, Int.reducePow, Nat.reducePow, Int.reduceMul, Int.reduceDiv, ↓s_expire_Store_Alive, hH1, fx1, ↓enterK_eq e2, enterK_eq e2, fx2, ↓enterK_eq e4, enterK_eq e4]
  · have hi : idxP (pB S now) (pl S) 0 = (j : Int) := by rw [hi]; congr 1; omega
    rw [hi] at e3
    have hf' : (pl S).take j = ((pl S).take (j + 1)).filter (fun a => !pB S now a) := hf.symm
    obtain ⟨i', cur', H3, g1, g2, g3, g4, g5, g6, g7⟩ := l_delP (bx := H.n) (v := v) hpl ((pl S).drop (j + 1)) j (j + 1) (pl S) H2 rfl (by omega) (by omega) ok2 r2 fx2 (by omega) ow rfl hf' rfl (fun b hb => by
      have := hvb b hb
      exact ⟨this.2, by omega, fun h => by
        have := r1.lt ((ob_still (by omega) s2 (fun h => h)).1 h)
        omega⟩)
    have n3 := g7.n
    have g1 : ∀ K, l_slices_DeleteFunc_Pair_0 v (clo H.n) (.int .i64 (j : Int)) (.int .i64 ((j : Int) + 1)) H2 (blkK [0, 5] 0 K) = K .normal [(0, v), (5, .int .i64 (i' : Int))] H3 := g1
    have hlt : i' < (pl S).length := by
      rw [List.length_drop] at g5
      omega
    rcases g2 with ⟨h, _⟩ | ⟨h, _⟩ | ⟨b, o, cc, xs, hv, hlc, hbn, hff, ho, hx⟩
    · rw [h] at g3; simp at g3; omega
    · rw [h] at g3; simp at g3; omega
    · have hw : EPr.w = 2 := rfl
      rw [hw] at ho hx
      rw [g3] at hv hlc hx
      have hmul : (pl S).length * 2 ≤ cc * 2 := Nat.mul_le_mul_right _ hlc
      have hvb' := hvb b (by rw [hv]; rfl)
      have q1 : slS T.api_Pair 2 v (some (.int .i64 (i' : Int))) none none H3 = some (.slice (some ⟨b, o + i' * 2, none⟩) ((pl S).length - i') (2 * (cc - i') + 1)) := by rw [hv]; exact sl_lo hff (by omega) hlc
      obtain ⟨zs, hzs⟩ : ∃ zs, zeros [.string (mk []), .string (mk [])] ((pl S).length - i') = zs := ⟨_, rfl⟩
      have hzl : zs.length = ((pl S).length - i') * 2 := by rw [← hzs]; exact zeros_len _
      have hz1 : zs.all Eng.one = true := by rw [← hzs]; exact zeros_one _
      obtain ⟨H4, hH4⟩ : ∃ H4, H3.set b (.cells (spl xs (o + i' * 2) zs) T.api_Pair true) = H4 := ⟨_, rfl⟩
      have q2 : xclear Try.prog [T.sl_api_Pair] (.slice (some ⟨b, o + i' * 2, none⟩) ((pl S).length - i') (2 * (cc - i') + 1)) H3 = some (.tuple #[], H4) := by
        rw [clearP (by omega), hzs, hff, wrL_c (by rw [hzl, Nat.sub_mul]; omega) hz1, setB_s, ← hH4]
        rfl
      have f4 : H4.f b = .cells (spl xs (o + i' * 2) zs) T.api_Pair true := by rw [← hH4]; exact set_f_eq
      have q3 : slS T.api_Pair 2 v none (some (.int .i64 (i' : Int))) none H4 = some (.slice (some ⟨b, o, none⟩) i' (2 * cc + 1)) := by rw [hv]; exact sl_hi f4 (by omega)
      have hfl : (aliveS S now).length = i' := by
        have := congrArg List.length g6
        rw [List.length_take, g3] at this
        unfold aliveS
        omega
      have ow4 : Own EPr H4 T.api_Pair (.slice (some ⟨b, o, none⟩) i' (2 * cc + 1)) (aliveS S now) := by
        refine .inr (.inr ⟨b, o, cc, _, by rw [hfl], by omega, by rw [← hH4]; exact hbn, f4, by rw [spl_length, hw, ho], ?_⟩)
        rw [hfl, hw]
        have hcur : EPr.cells (aliveS S now) = (EPr.cells cur').take (i' * 2) := by
          have := EPr.cells_take cur' i'
          rw [hw] at this
          rw [this, g6]
          rfl
        rw [hcur, ← hx, List.take_take, Nat.min_eq_left (by omega)]
        apply List.ext_getElem?
        intro t
        by_cases ht : t < i' * 2
        · rw [List.getElem?_take_of_lt ht, List.getElem?_take_of_lt ht, List.getElem?_drop, List.getElem?_drop, spl_get _ _ _ _ (by rw [hzl, Nat.sub_mul]; omega), if_neg (by omega)]
        · rw [List.getElem?_eq_none (by simp only [List.length_take]; omega), List.getElem?_eq_none (by simp only [List.length_take]; omega)]
      have st4 : Still H H4 := by
        refine Fr.then (S' := OnlyOf v) s12 ?_ fun x hx' h => ?_
        · rw [← hH4]
          exact g7.set _ _ fun _ => by unfold OnlyOf; rw [hv]; rfl
        · unfold OnlyOf at h
          have := hvb x h
          omega
      have run : s_slices_DeleteFunc_Pair guardK condL shareL Try.prog CC l_slices_DeleteFunc_Pair_0 v (clo H.n) H2 (endK Try.prog [.tmp 4]) = some (.slice (some ⟨b, o, none⟩) i' (2 * cc + 1), H4) := by
        simp (disch := first | with_reducible rfl | assumption | omega | rfl | (simp only [go_sem]; first | done | omega)) only [go_sem, ↓reduceIte, reduceCtorEq, Nat.reduceEqDiff, Nat.reduceAdd, Nat.reduceSub, Nat.reduceMul, Nat.reduceDiv, Nat.reduceMod, Nat.reduceLeDiff, Nat.reduceLT, Nat.reduceBEq, Int.reduceEq, Int.reduceBEq, Int.reduceBNe, Int.reduceLT, Int.reduceLE, Int.reduceAdd, Int.reduceSub, Int.reduceNeg, Int.reduceToNat, Int.reducePow, Nat.reducePow, Int.reduceMul, Int.reduceDiv, ↓s_slices_DeleteFunc_Pair, ↓enterK_eq e3, enterK_eq e3, g1, q1, q2, q3]
      have e4 : CC F.slices_DeleteFunc_Pair [v, clo H.n] H2 = some (.slice (some ⟨b, o, none⟩) i' (2 * cc + 1), H4) := (d_slices_DeleteFunc_Pair _ _ H2 run).trans (congrArg some (tidy_mem rfl))
      refine fin ow4 st4 (fun b' hb' => by cases hb'; show H.n ≤ b; omega) ?_
      simp (disch := first | with_reducible rfl | assumption | omega | rfl | (simp only [go_sem]; first | done | omega)) only [go_sem, ↓reduceIte, reduceCtorEq, Nat.reduceEqDiff, Nat.reduceAdd, Nat.reduceSub, Nat.reduceMul, Nat.reduceDiv, Nat.reduceMod, Nat.reduceLeDiff, Nat.reduceLT, Nat.reduceBEq, Int.reduceEq, Int.reduceBEq, Int.reduceBNe, Int.reduceLT, Int.reduceLE, Int.reduceAdd, Int.reduceSub, Int.reduceNeg, Int.reduceToNat, Int.reducePow, Nat.reducePow, Int.reduceMul, Int.reduceDiv, ↓s_expire_Store_Alive, hH1, fx1, ↓enterK_eq e2, enterK_eq e2, fx2, ↓enterK_eq e4, enterK_eq e4]
end

end Go.Proofs.Ythjjkinpbpealaa

/-
  The seat's functions as terms over the engine's combinators (a program of ours printed it).
  Conditions: none. By an AI agent.
-/
set_option linter.unusedVariables false
namespace Go.Proofs.Ythjjkinpbpealaa
open Go Eng

/-! ticketline.ticketlinelaw45.ExpireMany -/

noncomputable def s_law_ExpireMany (mg : GT) (mc : CT) (ms : ST) (P : Program) (C : CallF) (L0 : Value → Value → Value → Value → AHeap → K → Res) (a0 : Value) (a1 : Value) (H : AHeap) (K0 : K) : Res :=
bareK (xbin P .lss T.int (.tmp 13) (.const (.int .i64 19998)) a0 (.int .i64 19998)) H fun t14 h1 =>
mg t14 false (fun o1 => o1 a0 h1) h1 fun t16 h2 =>
mg t14 false (fun o2 => bareK (xbin P .gtr T.int (.tmp 16) (.const (.int .i64 20002)) t16 (.int .i64 20002)) h2 o2) h2 fun t17 h3 =>
pickK t14 (.bool true) t17 fun t18 =>
mg t18 false (fun o3 => o3 a1 h3) h3 fun t20 h4 =>
mg t18 false (fun o4 => bareK (xbin P .lss T.int (.tmp 20) (.const (.int .i64 0)) t20 (.int .i64 0)) h4 o4) h4 fun t21 h5 =>
pickK t18 (.bool true) t21 fun t22 =>
mg t22 false (fun o5 => o5 a1 h5) h5 fun t24 h6 =>
mg t22 false (fun o6 => bareK (xbin P .gtr T.int (.tmp 24) (.const (.int .i64 200)) t24 (.int .i64 200)) h6 o6) h6 fun t25 h7 =>
pickK t22 (.bool true) t25 fun t26 =>
mc t26 (fun k7 => enterK C F.law_known [] h7 fun t27 h8 =>
k7 .ret [(4, t27)] h8) (fun k7 =>
k7 .normal [(0, a0), (1, a1)] h7) (seqK (fun tT h9 =>
bareK (bldS #[(.slice none 0 0), (.map none), (.int .i64 0)] [(0, 1), (1, 1), (2, 1)] []) h9 fun t28 h10 =>
bothK (newv T.expire_Store t28 h10) fun t29 h11 =>
ms (fun k8 =>
L0 (get tT 0) (get tT 1) t29 (.int .i64 1) h11 (blkK [0, 1, 5] 0 k8)) (seqK (fun tT_1 h12 =>
nextK C h12 (xbuiltin P .min [T.int, T.int] [(get tT_1 0), (.int .i64 20000)] h12) fun t54 h13 =>
nextK C h13 (xbuiltin P .min [T.int, T.int] [t54, (get tT_1 1)] h13) fun t57 h14 =>
enterK C F.expire_Store_Pass [(get tT_1 5), (get tT_1 1)] h14 fun t60 h15 =>
bareK (xbin P .neq T.api_Errno (.tmp 60) (.const (.int .i64 0)) t60 (.int .i64 0)) h15 fun t61 h16 =>
mg t61 false (fun o9 => o9 (get tT_1 5) h16) h16 fun t63 h17 =>
mg t61 false (fun o10 => enterK C F.expire_Store_Waiting [t63] h17 o10) h17 fun t64 h18 =>
mg t61 false (fun o11 => o11 t57 h18) h18 fun t65 h19 =>
mg t61 false (fun o12 => bareK (xbin P .neq T.int (.tmp 64) (.tmp 65) t64 t65) h19 o12) h19 fun t66 h20 =>
pickK t61 (.bool true) t66 fun t67 =>
mg t67 false (fun o13 => o13 (get tT_1 5) h20) h20 fun t69 h21 =>
mg t67 false (fun o14 => enterK C F.expire_Store_Len [t69] h21 o14) h21 fun t70 h22 =>
mg t67 false (fun o15 => o15 t54 h22) h22 fun t71 h23 =>
mg t67 false (fun o16 => o16 t57 h23) h23 fun t72 h24 =>
mg t67 false (fun o17 => bareK (xbin P .sub T.int (.tmp 71) (.tmp 72) t71 t72) h24 o17) h24 fun t73 h25 =>
mg t67 false (fun o18 => bareK (xbin P .neq T.int (.tmp 70) (.tmp 73) t70 t73) h25 o18) h25 fun t74 h26 =>
pickK t67 (.bool true) t74 fun t75 =>
mc t75 (fun k19 => k19 .ret [(4, (.bool false))] h26) (fun k19 =>
k19 .normal [(5, (get tT_1 5)), (9, t54), (10, t57)] h26) (seqK (fun tT_2 h27 =>
enterK C F.expire_Store_Sweep [(get tT_2 5), (.int .i64 30000)] h27 fun t78 h28 =>
bareK (xextract t78 0) h28 fun t79 h29 =>
bareK (xextract t78 1) h29 fun t80 h30 =>
bareK (xbin P .eql T.api_Errno (.tmp 81) (.const (.int .i64 0)) t80 (.int .i64 0)) h30 fun t82 h31 =>
mg t82 true (fun o20 => o20 t79 h31) h31 fun t84 h32 =>
mg t82 true (fun o21 => bareK (lenS t84) h32 o21) h32 fun t85 h33 =>
mg t82 true (fun o22 => o22 (get tT_2 10) h33) h33 fun t86 h34 =>
mg t82 true (fun o23 => bareK (xbin P .eql T.int (.tmp 85) (.tmp 86) t85 t86) h34 o23) h34 fun t87 h35 =>
pickK t82 t87 (.bool false) fun t88 =>
mg t88 true (fun o24 => o24 (get tT_2 5) h35) h35 fun t90 h36 =>
mg t88 true (fun o25 => enterK C F.expire_Store_Waiting [t90] h36 o25) h36 fun t91 h37 =>
mg t88 true (fun o26 => bareK (xbin P .eql T.int (.tmp 91) (.const (.int .i64 0)) t91 (.int .i64 0)) h37 o26) h37 fun t92 h38 =>
pickK t88 t92 (.bool false) fun t93 =>
mg t93 true (fun o27 => o27 (get tT_2 5) h38) h38 fun t95 h39 =>
mg t93 true (fun o28 => enterK C F.expire_Store_Len [t95] h39 o28) h39 fun t96 h40 =>
mg t93 true (fun o29 => o29 (get tT_2 9) h40) h40 fun t97 h41 =>
mg t93 true (fun o30 => o30 (get tT_2 10) h41) h41 fun t98 h42 =>
mg t93 true (fun o31 => bareK (xbin P .sub T.int (.tmp 97) (.tmp 98) t97 t98) h42 o31) h42 fun t99 h43 =>
mg t93 true (fun o32 => bareK (xbin P .eql T.int (.tmp 96) (.tmp 99) t96 t99) h43 o32) h43 fun t100 h44 =>
pickK t93 t100 (.bool false) fun t101 =>
mg t101 true (fun o33 => o33 (get tT_2 5) h44) h44 fun t103 h45 =>
mg t101 true (fun o34 => enterK C F.expire_Store_Alive [t103] h45 o34) h45 fun t104 h46 =>
mg t101 true (fun o35 => bareK (lenS t104) h46 o35) h46 fun t105 h47 =>
mg t101 true (fun o36 => o36 (get tT_2 9) h47) h47 fun t106 h48 =>
mg t101 true (fun o37 => o37 (get tT_2 10) h48) h48 fun t107 h49 =>
mg t101 true (fun o38 => bareK (xbin P .sub T.int (.tmp 106) (.tmp 107) t106 t107) h49 o38) h49 fun t108 h50 =>
mg t101 true (fun o39 => bareK (xbin P .eql T.int (.tmp 105) (.tmp 108) t105 t108) h50 o39) h50 fun t109 h51 =>
pickK t101 t109 (.bool false) fun t110 =>
mg t110 true (fun o40 => enterK C F.law_known [] h51 o40) h51 fun t112 h52 =>
pickK t110 t112 (.bool false) fun t113 =>
K0 .ret [(4, t113)] h52) K0)) K0)) K0)

noncomputable def s_law_ExpireMany_b0 (mg : GT) (mc : CT) (ms : ST) (P : Program) (C : CallF) (L0 : Value → Value → Value → Value → AHeap → K → Res) (v0 : Value) (v1 : Value) (v5 : Value) (v6 : Value) (H : AHeap) (k : K) : Res :=
bareK (xbin P .leq T.int (.tmp 30) (.tmp 31) v6 v0) H fun t32 h12 =>
mc t32 (fun k9 => k9 .normal [(0, v0), (1, v1), (5, v5), (6, v6)] h12) (fun k9 =>
k9 (.exit 0) [(32, t32), (31, v0), (30, v6), (0, v0), (1, v1), (5, v5), (6, v6)] h12) (seqK (fun tT h13 =>
ms (fun k10 =>
bareK (xbin P .quo T.int (.tmp 35) (.const (.int .i64 65536)) (get tT 6) (.int .i64 65536)) h13 fun t36 h14 =>
bothK (xconv P T.int T.uint8 t36 h14) fun t37 h15 =>
bareK (xbin P .quo T.int (.tmp 38) (.const (.int .i64 256)) (get tT 6) (.int .i64 256)) h15 fun t39 h16 =>
bothK (xconv P T.int T.uint8 t39 h16) fun t40 h17 =>
bothK (xconv P T.int T.uint8 (get tT 6) h17) fun t42 h18 =>
bothK (bldL T.uint8 [(.int .u8 0)] 3 [(0, t37), (1, t40), (2, t42)] h18) fun t43 h19 =>
bothK (xconv P T.sl_uint8 T.string t43 h19) fun t44 h20 =>
bareK (xbin P .gtr T.int (.tmp 45) (.const (.int .i64 20000)) (get tT 6) (.int .i64 20000)) h20 fun t46 h21 =>
mc t46 (fun k11 => k11 .normal [(0, (get tT 0)), (1, (get tT 1)), (5, (get tT 5)), (6, (get tT 6)), (7, t44), (8, (.int .i64 7))] h21) (fun k11 =>
k11 .normal [(0, (get tT 0)), (1, (get tT 1)), (5, (get tT 5)), (6, (get tT 6)), (7, t44), (8, (.int .i64 0))] h21) (seqK (fun tT_1 h22 =>
enterK C F.expire_Store_Put [(get tT_1 5), (get tT_1 7), (.string (mk [])), (get tT_1 6)] h22 fun t50 h23 =>
bareK (xbin P .neq T.api_Errno (.tmp 50) (.tmp 51) t50 (get tT_1 8)) h23 fun t52 h24 =>
mc t52 (fun k12 => k12 .ret [(4, (.bool false))] h24) (fun k12 =>
k12 .normal [(0, (get tT_1 0)), (1, (get tT_1 1)), (5, (get tT_1 5)), (6, (get tT_1 6))] h24) (blkK [0, 1, 5, 6] 1 k10)) (blkK [0, 1, 5, 6] 1 k10))) (seqK (fun tT_2 h25 =>
bareK (xbin P .add T.int (.tmp 33) (.const (.int .i64 1)) (get tT_2 6) (.int .i64 1)) h25 fun t34 h26 =>
k .normal [(0, (get tT_2 0)), (1, (get tT_2 1)), (5, (get tT_2 5)), (6, t34)] h26) (afterK [0, 1, 5, 6] k))) (afterK [0, 1, 5, 6] k))

theorem s_law_ExpireMany_eq (M : CombL) (C : CallF) (LP : LoopH) (a0 : Value) (a1 : Value) (H : AHeap) : dBodyL M Try.prog hints C LP F.law_ExpireMany [a0, a1] H = s_law_ExpireMany M.b.g M.c M.s Try.prog C (fun v0 v1 v5 v6 H k => loopL M Try.prog hints C LP F.law_ExpireMany 0 [(0, v0), (1, v1), (5, v5), (6, v6)] H k) a0 a1 H (endK Try.prog [.tmp 4]) := by kernel_rfl

theorem s_law_ExpireMany_b0_eq (M : CombL) (C : CallF) (LP : LoopH) (v0 : Value) (v1 : Value) (v5 : Value) (v6 : Value) (H : AHeap) (k : K) : bodyL M Try.prog hints C LP F.law_ExpireMany 0 [(0, v0), (1, v1), (5, v5), (6, v6)] H (afterK [0, 1, 5, 6] k) = s_law_ExpireMany_b0 M.b.g M.c M.s Try.prog C (fun v0 v1 v5 v6 H k => loopL M Try.prog hints C LP F.law_ExpireMany 0 [(0, v0), (1, v1), (5, v5), (6, v6)] H k) v0 v1 v5 v6 H k := by kernel_rfl

end Go.Proofs.Ythjjkinpbpealaa

/-
  The equations of the seat's functions over calls in the limit (a program of ours printed it).
  Conditions: none. By an AI agent.
-/
set_option linter.unusedVariables false
namespace Go.Proofs.Ythjjkinpbpealaa
open Go Eng

theorem u_sl_uint8 : Try.prog.underlying T.sl_uint8 = Try.prog.underlying 30 := rfl
@[go_sem] theorem x_int_uint8 {n : Int} {H : AHeap} : xconv Try.prog T.int T.uint8 (.int .i64 n) H = some (.int .u8 (IntKind.wrap .u8 n), H) := xconv_int (P := Try.prog) (s := 3) (t := 5) Try.underlying3 Try.underlying5

noncomputable def l_law_ExpireMany_0 (v0 : Value) (v1 : Value) (v5 : Value) (v6 : Value) (H : AHeap) (k : K) : Res := loopL stdL Try.prog hints CC limLP F.law_ExpireMany 0 [(0, v0), (1, v1), (5, v5), (6, v6)] H k
theorem r_law_ExpireMany_0 (v0 : Value) (v1 : Value) (v5 : Value) (v6 : Value) (H : AHeap) (k : K) : l_law_ExpireMany_0 v0 v1 v5 v6 H k = s_law_ExpireMany_b0 guardK condL shareL Try.prog CC l_law_ExpireMany_0 v0 v1 v5 v6 H (seqK (fun T H => l_law_ExpireMany_0 (get T 0) (get T 1) (get T 5) (get T 6) H k) k) := ((loopL_next (by kernel_rfl) rfl H k).trans (s_law_ExpireMany_b0_eq stdL CC limLP v0 v1 v5 v6 H _)).trans (by kernel_rfl)
theorem d_law_ExpireMany (a0 : Value) (a1 : Value) (H : AHeap) {r : Value × AHeap} (h : s_law_ExpireMany guardK condL shareL Try.prog CC l_law_ExpireMany_0 a0 a1 H (endK Try.prog [.tmp 4]) = some r) : CC F.law_ExpireMany [a0, a1] H = some (tidy H r) := D_body (by kernel_rfl) ((s_law_ExpireMany_eq stdL CC limLP a0 a1 H).trans (Eq.trans (show s_law_ExpireMany stdL.b.g stdL.c stdL.s Try.prog CC (fun v0 v1 v5 v6 H k => loopL stdL Try.prog hints CC limLP F.law_ExpireMany 0 [(0, v0), (1, v1), (5, v5), (6, v6)] H k) a0 a1 H (endK Try.prog [.tmp 4]) = s_law_ExpireMany guardK condL shareL Try.prog CC l_law_ExpireMany_0 a0 a1 H (endK Try.prog [.tmp 4]) by kernel_rfl) h))

end Go.Proofs.Ythjjkinpbpealaa

/-
  Chapter 45: the law ExpireMany runs to true.
  Conditions: none. By an AI agent.
-/
set_option maxRecDepth 10000
set_option linter.unusedSimpArgs false
set_option linter.unusedVariables false
namespace Go.Proofs.Ythjjkinpbpealaa
open Go Eng
attribute [local congr] bareK_congr' bothK_congr' quietK_congr'

/-! ### what is swept out -/
theorem del_filter : ∀ {S : List En}, Srt (pl S) → ∀ (k : ByteArray), delR S k = S.filter fun x => !decide (x.key = k)
  | [], _, _ => rfl
  | y :: S, hs, k => by
    have hp := List.pairwise_cons.1 hs
    rw [delR, List.filter_cons]
    by_cases h : y.key = k
    · rw [if_pos h]
      have : (!decide (y.key = k)) = false := by simp [h]
      rw [this, if_neg (by decide)]
      refine (List.filter_eq_self.2 fun x hx => ?_).symm
      have h1 : cmpS y.key x.key < 0 := hp.1 (toP x) (List.mem_map_of_mem hx)
      have : ¬ x.key = k := fun e => by rw [e, ← h, cmpS_self] at h1; exact absurd h1 (by decide)
      simp [this]
    · rw [if_neg h]
      have : (!decide (y.key = k)) = true := by simp [h]
      rw [this, if_pos rfl, del_filter hp.2 k]
theorem sweep_srt : ∀ (ks : List ByteArray) {S : List En}, Srt (pl S) → Srt (pl (sweepS S ks))
  | [], _, hs => hs
  | k :: ks, _, hs => sweep_srt ks (del_srt hs k)
theorem sweep_filter : ∀ (ks : List ByteArray) {S : List En}, Srt (pl S) → sweepS S ks = S.filter fun x => ks.all fun k => !decide (x.key = k)
  | [], S, _ => by
    show S = _
    exact (List.filter_eq_self.2 fun x _ => rfl).symm
  | k :: ks, S, hs => by
    show sweepS (delR S k) ks = _
    rw [sweep_filter ks (del_srt hs k), del_filter hs, List.filter_filter]
    refine List.filter_congr fun x _ => ?_
    rw [List.all_cons, Bool.and_comm]
def dueB (now : Nat) (x : En) : Bool := decide (0 < x.e) && decide (x.e ≤ now)
theorem key_uniq {S : List En} (hs : Srt (pl S)) {x y : En} (hx : x ∈ S) (hy : y ∈ S) (h : x.key = y.key) : x = y := by
  have h1 := getS_mem hs hx
  have h2 := getS_mem hs hy
  rw [h, h2] at h1
  exact (Option.some.inj h1).symm
theorem end_of_mem {S : List En} (hs : Srt (pl S)) {x : En} (hx : x ∈ S) : endOf S x.key = x.e := by
  rw [endOf_get, getS_mem hs hx]
  rfl
theorem endB_mem {S : List En} (hs : Srt (pl S)) {x : En} (hx : x ∈ S) (now : Nat) : endB S now x.key = dueB now x := by
  unfold endB dueB
  rw [end_of_mem hs hx]
theorem sweep_all {S : List En} (hs : Srt (pl S)) (now : Nat) : sweepS S (wS S now) = S.filter fun x => !dueB now x := by
  rw [sweep_filter _ hs]
  refine List.filter_congr fun x hx => ?_
  have key : (wS S now).all (fun k => !decide (x.key = k)) = true ↔ ¬ dueB now x = true := by
    rw [List.all_eq_true]
    constructor
    · intro h hd
      unfold dueB at hd
      simp only [Bool.and_eq_true, decide_eq_true_eq] at hd
      have := h x.key (wS_mem.2 ⟨x, hx, rfl, hd⟩)
      simp at this
    · intro h k hk
      obtain ⟨y, hy, rfl, h1, h2⟩ := wS_mem.1 hk
      have : ¬ x.key = y.key := fun e => by
        have := key_uniq hs hx hy e
        subst this
        exact h (by unfold dueB; simp [h1, h2])
      simp [this]
  cases hd : dueB now x with
  | true => rw [hd] at key; simpa using key
  | false => rw [hd] at key; simpa using key
theorem wS_none {S : List En} {now : Nat} (h : ∀ x ∈ S, ¬ dueB now x = true) : wS S now = [] := by
  refine List.length_eq_zero_iff.1 ?_
  rw [wS_len]
  have : (S.filter fun x => decide (0 < x.e) && decide (x.e ≤ now)) = [] := List.filter_eq_nil_iff.2 fun x hx => by
    have := h x hx
    unfold dueB at this
    exact this
  rw [this]
  rfl
theorem alive_len {S : List En} (hs : Srt (pl S)) (now : Nat) : (aliveS S now).length = S.length - (wS S now).length := by
  have h1 : aliveS S now = pl (S.filter fun x => !dueB now x) := by
    unfold aliveS pl
    rw [List.filter_map]
    congr 1
    refine List.filter_congr fun x hx => ?_
    show (!endB S now x.key) = _
    rw [endB_mem hs hx]
  rw [h1, wS_len]
  have h2 : (pl (S.filter fun x => !dueB now x)).length = (S.filter fun x => !dueB now x).length := by simp [pl]
  rw [h2]
  have h3 : ∀ S : List En, (S.filter fun x => !dueB now x).length + (S.filter fun x => dueB now x).length = S.length := by
    intro S
    induction S with
    | nil => rfl
    | cons x S ih =>
      rw [List.filter_cons, List.filter_cons]
      cases dueB now x <;> simp <;> omega
  have := h3 S
  have h4 : (S.filter fun x => decide (0 < x.e) && decide (x.e ≤ now)) = S.filter fun x => dueB now x := rfl
  rw [h4]
  omega

/-! ### the keys -/
def kL (i : Nat) : List UInt8 := [0, UInt8.ofNat (i / 256), UInt8.ofNat (i % 256)]
def kN (i : Nat) : ByteArray := mk (kL i)
theorem kN_lt {i j : Nat} (h : i < j) (hj : j < 65536) : cmpS (kN i) (kN j) < 0 := by
  unfold cmpS kN
  rw [bl_mk, bl_mk]
  unfold kL
  have e : ∀ n, n < 256 → (UInt8.ofNat n).toNat = n := fun n hn => UInt8.toNat_ofNat_of_lt' hn
  have lt : ∀ a b, a < 256 → b < 256 → (UInt8.ofNat a < UInt8.ofNat b ↔ a < b) := fun a b ha hb => by rw [u8_lt, e a ha, e b hb]
  have a1 := lt (i / 256) (j / 256) (by omega) (by omega)
  have a2 := lt (j / 256) (i / 256) (by omega) (by omega)
  have b1 := lt (i % 256) (j % 256) (by omega) (by omega)
  simp only [Lib.compareBytes]
  rw [if_neg (by decide), if_neg (by decide)]
  by_cases c1 : i / 256 < j / 256
  · rw [if_pos (a1.2 c1)]; decide
  · rw [if_neg (fun h => c1 (a1.1 h)), if_neg (fun h => by have := a2.1 h; omega), if_pos (b1.2 (by omega))]
    decide
def eM (i : Nat) : En := ⟨kN (i + 1), mk [], i + 1⟩
def SM (n : Nat) : List En := (List.range n).map eM
theorem SM_succ (n : Nat) : SM (n + 1) = SM n ++ [eM n] := by
  unfold SM
  rw [List.range_succ, List.map_append]
  rfl
theorem SM_len (n : Nat) : (SM n).length = n := by simp [SM]
theorem SM_mem {n : Nat} {x : En} : x ∈ SM n ↔ ∃ i, i < n ∧ x = eM i := by
  unfold SM
  constructor
  · intro h
    obtain ⟨i, hi, rfl⟩ := List.mem_map.1 h
    exact ⟨i, List.mem_range.1 hi, rfl⟩
  · rintro ⟨i, hi, rfl⟩
    exact List.mem_map.2 ⟨i, List.mem_range.2 hi, rfl⟩
theorem ins_end_list : ∀ {S : List En} {x : En}, (∀ y ∈ S, cmpS y.key x.key < 0) → insR S x = S ++ [x]
  | [], _, _ => rfl
  | y :: S, x, h => by
    rw [insR, if_pos (h y (by simp)), ins_end_list fun z hz => h z (by simp [hz])]
    rfl
theorem SM_low {n i : Nat} (h : n ≤ i) (hi : i + 1 < 65536) : ∀ y ∈ SM n, cmpS y.key (kN (i + 1)) < 0 := fun y hy => by
  obtain ⟨j, hj, rfl⟩ := SM_mem.1 hy
  exact kN_lt (by omega) (by omega)
theorem SM_due (tick : Nat) : ∀ n, ((SM n).filter fun x => decide (0 < x.e) && decide (x.e ≤ tick)).length = min n tick
  | 0 => by simp [SM]
  | n + 1 => by
    rw [SM_succ, List.filter_append, List.length_append, SM_due tick n]
    by_cases h : n + 1 ≤ tick
    · have : ([eM n].filter fun x => decide (0 < x.e) && decide (x.e ≤ tick)) = [eM n] := by simp [eM, h]
      rw [this]
      simp
      omega
    · have : ([eM n].filter fun x => decide (0 < x.e) && decide (x.e ≤ tick)) = [] := by simp [eM]; omega
      rw [this]
      simp
      omega
theorem chk_kN (i : Nat) : chk (kN i) [mk []] = 0 := by
  unfold chk kN kL
  rw [bl_mk]
  simp [bl_mk]

theorem wrap8 (n : Nat) : IntKind.wrap .u8 (n : Int) = ((n % 256 : Nat) : Int) := by
  simp [IntKind.wrap, IntKind.bits, IntKind.signed]
theorem cv8 {H : AHeap} (n : Nat) : xconv Try.prog T.int T.uint8 (.int .i64 (n : Int)) H = some (.int .u8 ((n % 256 : Nat) : Int), H) := by
  rw [show xconv Try.prog T.int T.uint8 (.int .i64 (n : Int)) H = _ from xconv_int Try.underlying3 Try.underlying5, wrap8]
theorem bcell (n : Nat) (h : n < 256) : byteCell (UInt8.ofNat n) = .int .u8 (n : Int) := by
  unfold byteCell
  rw [UInt8.toNat_ofNat_of_lt' h]

section
variable {c : Nat}
/-- The key of a round. -/
theorem q_keyM (i : Nat) (hi : i < 65536) (H : AHeap) : ∃ H1, Still H H1 ∧ bldL T.uint8 [(.int .u8 0)] 3 [(0, .int .u8 ((i / 65536 % 256 : Nat) : Int)), (1, .int .u8 ((i / 256 % 256 : Nat) : Int)), (2, .int .u8 ((i % 256 : Nat) : Int))] H = some (.slice (some ⟨H.n, 0, none⟩) 3 (2 * 3), H1) ∧
    xconv Try.prog T.sl_uint8 T.string (.slice (some ⟨H.n, 0, none⟩) 3 (2 * 3)) H1 = some (.string (kN i), H1) := by
  obtain ⟨H1, hH1⟩ : ∃ H1, H.push (.cells (EB.cells (kL i)) T.uint8 true) = H1 := ⟨_, rfl⟩
  have hcells : EB.cells (kL i) = [.int .u8 ((i / 65536 % 256 : Nat) : Int), .int .u8 ((i / 256 % 256 : Nat) : Int), .int .u8 ((i % 256 : Nat) : Int)] := by
    rw [EB_cells]
    unfold kL
    simp only [List.map_cons, List.map_nil]
    rw [bcell (i / 256) (by omega), bcell (i % 256) (by omega), show i / 65536 % 256 = 0 by omega, show i / 256 % 256 = i / 256 by omega]
    rfl
  have s1 : Still H H1 := by rw [← hH1]; exact (Fr.refl H).push _
  have n1 : H1.n = H.n + 1 := by rw [← hH1]; rfl
  refine ⟨H1, s1, ?_, ?_⟩
  · rw [← hH1, hcells]
    rfl
  · have hr : Rd EB H1 (.slice (some ⟨H.n, 0, none⟩) 3 (2 * 3)) (kL i) := .inr (.inr ⟨H.n, 0, _, rfl, by unfold kL; simp, by omega, by
      rw [← hH1, push_f_eq rfl, hcells]
      rfl⟩)
    exact conv_bs Try.underlying30 Try.underlying5 Try.underlying9 hr

theorem put_many (i : Nat) (hi : i < 20002) : putX (SM (min i 20000)) 0 (kN (i + 1)) (mk []) ((i + 1 : Nat) : Int) = (if i < 20000 then (0, SM (min (i + 1) 20000)) else (7, SM (min (i + 1) 20000))) := by
  unfold putX
  rw [if_neg (by omega), if_neg (fun h => h (chk_kN _)), if_neg (by omega)]
  have hlow : ∀ y ∈ SM (min i 20000), cmpS y.key (kN (i + 1)) < 0 := SM_low (by omega) (by omega)
  have hg : getS (SM (min i 20000)) (kN (i + 1)) = none := getS_none fun x hx e => by
    have := hlow x hx
    rw [e, cmpS_self] at this
    exact absurd this (by decide)
  rw [hg, SM_len]
  by_cases h : i < 20000
  · rw [if_neg (by simp; omega), if_pos h, Int.toNat_natCast, show min i 20000 = i by omega, show min (i + 1) 20000 = i + 1 by omega, SM_succ]
    rw [show min i 20000 = i by omega] at hlow
    rw [ins_end_list hlow]
    rfl
  · rw [if_pos ⟨rfl, by omega⟩, if_neg h, show min i 20000 = min (i + 1) 20000 by omega]

theorem l_many (many : Nat) (v1 : Value) (hm : many ≤ 20002) : ∀ (d i : Nat) (m : Option Nat) (E : Ec) (H : AHeap), i + d = many → Ok H → StR H c m E (SM (min i 20000)) 0 →
    ∃ m' E' H', (∀ K, l_law_ExpireMany_0 (.int .i64 (many : Int)) v1 (pt c) (.int .i64 ((i + 1 : Nat) : Int)) H (blkK [0, 1, 5] 0 K) = K .normal [(0, .int .i64 (many : Int)), (1, v1), (5, pt c)] H') ∧ Ok H' ∧ StR H' c m' E' (SM (min many 20000)) 0
  | 0, i, m, E, H, hi, ok, r => by
    obtain rfl : i = many := by omega
    have hlt : ¬ ((i + 1 : Nat) : Int) ≤ (i : Int) := by omega
    refine ⟨m, E, H, fun K => ?_, ok, r⟩
    rw [r_law_ExpireMany_0]
    generalize ((i + 1 : Nat) : Int) = I at hlt ⊢
    simp (disch := first | with_reducible rfl | assumption | omega | rfl | (simp only [go_sem]; first | done | omega)) only [go_sem, ↓reduceIte, reduceCtorEq, Nat.reduceEqDiff, Nat.reduceAdd, Nat.reduceSub, Nat.reduceMul, Nat.reduceDiv, Nat.reduceMod, Nat.reduceLeDiff, Nat.reduceLT, Nat.reduceBEq, Int.reduceEq, Int.reduceBEq, Int.reduceBNe, Int.reduceLT, Int.reduceLE, Int.reduceAdd, Int.reduceSub, Int.reduceNeg, Int.reduceToNat, Int.reducePow, Nat.reducePow, Int.reduceMul, Int.reduceDiv, ↓s_law_ExpireMany_b0, hlt]
  | d + 1, i, m, E, H, hi, ok, r => by
    have hlt : ((i + 1 : Nat) : Int) ≤ (many : Int) := by omega
    have q1 : ∀ ox oy, xbin Try.prog .quo T.int ox oy (.int .i64 ((i + 1 : Nat) : Int)) (.int .i64 65536) = some (.int .i64 (((i + 1) / 65536 : Nat) : Int)) := fun ox oy => quoN (b := 65536) (by decide) (by omega)
    have q2 : ∀ ox oy, xbin Try.prog .quo T.int ox oy (.int .i64 ((i + 1 : Nat) : Int)) (.int .i64 256) = some (.int .i64 (((i + 1) / 256 : Nat) : Int)) := fun ox oy => quoN (b := 256) (by decide) (by omega)
    have w1 := fun H : AHeap => cv8 (H := H) ((i + 1) / 65536)
    have w2 := fun H : AHeap => cv8 (H := H) ((i + 1) / 256)
    have w3 := fun H : AHeap => cv8 (H := H) (i + 1)
    obtain ⟨H1, s1, bd, cv⟩ := q_keyM (i + 1) (by omega) H
    have r1 := r.still s1
    have ok1 := s1.ok ok
    obtain ⟨m', E', H2, e2, r2, u2⟩ := q_xPut ok1 r1 (kN (i + 1)) (mk []) ((i + 1 : Nat) : Int)
    rw [put_many i (by omega)] at e2 r2
    have ok2 := u2.fr.ok ok1
    have hadd : ∀ ox oy, xbin Try.prog .add T.int ox oy (.int .i64 ((i + 1 : Nat) : Int)) (.int .i64 1) = some (.int .i64 ((i + 1 + 1 : Nat) : Int)) := fun ox oy => by
      rw [add_i64 (by omega)]
      rfl
    by_cases hg : i < 20000
    · rw [if_pos hg] at e2 r2
      have hg' : ¬ (20000 : Int) < ((i + 1 : Nat) : Int) := by omega
      obtain ⟨m3, E3, H3, g1, g2, g3⟩ := l_many many v1 hm d (i + 1) m' E' H2 (by omega) ok2 r2
      refine ⟨m3, E3, H3, fun K => ?_, g2, g3⟩
      have ih := g1 K
      rw [r_law_ExpireMany_0]
      generalize ((i + 1 : Nat) : Int) = I at hlt q1 q2 w3 e2 hg' hadd ⊢
      generalize (((i + 1) / 65536 : Nat) : Int) = I1 at q1 w1
      generalize (((i + 1) / 256 : Nat) : Int) = I2 at q2 w2
      generalize (((i + 1) / 65536 % 256 : Nat) : Int) = J1 at w1 bd
      generalize (((i + 1) / 256 % 256 : Nat) : Int) = J2 at w2 bd
      generalize (((i + 1) % 256 : Nat) : Int) = J3 at w3 bd
      simp (disch := first | with_reducible rfl | assumption | omega | rfl | (simp only [go_sem]; first | done | omega)) only [go_sem, ↓reduceIte, reduceCtorEq, Nat.reduceEqDiff, Nat.reduceAdd, Nat.reduceSub, Nat.reduceMul, Nat.reduceDiv, Nat.reduceMod, Nat.reduceLeDiff, Nat.reduceLT, Nat.reduceBEq, Int.reduceEq, Int.reduceBEq, Int.reduceBNe, Int.reduceLT, Int.reduceLE, Int.reduceAdd, Int.reduceSub, Int.reduceNeg, Int.reduceToNat, Int.reducePow, Nat.reducePow, Int.reduceMul, Int.reduceDiv, ↓s_law_ExpireMany_b0, hlt, ↓q1, q1, ↓q2, q2, ↓w1, w1, ↓w2, w2, ↓w3, w3, ↓bd, bd, ↓cv, cv, hg', ↓enterK_eq e2, enterK_eq e2, ↓hadd, hadd]
      exact ih
    · rw [if_neg hg] at e2 r2
      have hg' : (20000 : Int) < ((i + 1 : Nat) : Int) := by omega
      obtain ⟨m3, E3, H3, g1, g2, g3⟩ := l_many many v1 hm d (i + 1) m' E' H2 (by omega) ok2 r2
      refine ⟨m3, E3, H3, fun K => ?_, g2, g3⟩
      have ih := g1 K
      rw [r_law_ExpireMany_0]
      generalize ((i + 1 : Nat) : Int) = I at hlt q1 q2 w3 e2 hg' hadd ⊢
      generalize (((i + 1) / 65536 : Nat) : Int) = I1 at q1 w1
      generalize (((i + 1) / 256 : Nat) : Int) = I2 at q2 w2
      generalize (((i + 1) / 65536 % 256 : Nat) : Int) = J1 at w1 bd
      generalize (((i + 1) / 256 % 256 : Nat) : Int) = J2 at w2 bd
      generalize (((i + 1) % 256 : Nat) : Int) = J3 at w3 bd
      simp (disch := first | with_reducible rfl | assumption | omega | rfl | (simp only [go_sem]; first | done | omega)) only [go_sem, ↓reduceIte, reduceCtorEq, Nat.reduceEqDiff, Nat.reduceAdd, Nat.reduceSub, Nat.reduceMul, Nat.reduceDiv, Nat.reduceMod, Nat.reduceLeDiff, Nat.reduceLT, Nat.reduceBEq, Int.reduceEq, Int.reduceBEq, Int.reduceBNe, Int.reduceLT, Int.reduceLE, Int.reduceAdd, Int.reduceSub, Int.reduceNeg, Int.reduceToNat, Int.reducePow, Nat.reducePow, Int.reduceMul, Int.reduceDiv, ↓s_law_ExpireMany_b0, hlt, ↓q1, q1, ↓q2, q2, ↓w1, w1, ↓w2, w2, ↓w3, w3, ↓bd, bd, ↓cv, cv, hg', ↓enterK_eq e2, enterK_eq e2, ↓hadd, hadd]
      exact ih
end

/-- The empty store. -/
theorem r_empty {H : AHeap} {c : Nat} (hf : H.f c = .cells [.slice none 0 0, .map none, .int .i64 0] T.expire_Store true) (hc : c < H.n) : StR H c none [] [] 0 :=
  ⟨⟨.slice none 0 0, hf, hc, .inl ⟨rfl, rfl⟩, fun h => by cases h⟩, rfl, fun mb h => (by cases h), by simp, fun k => rfl, List.Pairwise.nil, by simp, fun x hx => by simp at hx, by decide, fun x hx => by simp at hx⟩

attribute [-go_sem] bldS
theorem q_ExpireMany (a b : Int) (H : AHeap) (ok : Ok H) : ∃ H', CC F.law_ExpireMany [.int .i64 a, .int .i64 b] H = some (.bool true, H') := by
  by_cases h1 : a < 19998
  · refine any_of (H1 := H) (d_law_ExpireMany _ _ H ?_)
    simp (disch := first | with_reducible rfl | assumption | omega | rfl | (simp only [go_sem]; first | done | omega)) only [go_sem, ↓reduceIte, reduceCtorEq, Nat.reduceEqDiff, Nat.reduceAdd, Nat.reduceSub, Nat.reduceMul, Nat.reduceDiv, Nat.reduceMod, Nat.reduceLeDiff, Nat.reduceLT, Nat.reduceBEq, Int.reduceEq, Int.reduceBEq, Int.reduceBNe, Int.reduceLT, Int.reduceLE, Int.reduceAdd, Int.reduceSub, Int.reduceNeg, Int.reduceToNat, Int.reducePow, Nat.reducePow, Int.reduceMul, Int.reduceDiv, ↓s_law_ExpireMany, h1, e_known]
  by_cases h2 : 20002 < a
  · refine any_of (H1 := H) (d_law_ExpireMany _ _ H ?_)
    simp (disch := first | with_reducible rfl | assumption | omega | rfl | (simp only [go_sem]; first | done | omega)) only [go_sem, ↓reduceIte, reduceCtorEq, Nat.reduceEqDiff, Nat.reduceAdd, Nat.reduceSub, Nat.reduceMul, Nat.reduceDiv, Nat.reduceMod, Nat.reduceLeDiff, Nat.reduceLT, Nat.reduceBEq, Int.reduceEq, Int.reduceBEq, Int.reduceBNe, Int.reduceLT, Int.reduceLE, Int.reduceAdd, Int.reduceSub, Int.reduceNeg, Int.reduceToNat, Int.reducePow, Nat.reducePow, Int.reduceMul, Int.reduceDiv, ↓s_law_ExpireMany, h1, h2, e_known]
  by_cases h3 : b < 0
  · refine any_of (H1 := H) (d_law_ExpireMany _ _ H ?_)
    simp (disch := first | with_reducible rfl | assumption | omega | rfl | (simp only [go_sem]; first | done | omega)) only [go_sem, ↓reduceIte, reduceCtorEq, Nat.reduceEqDiff, Nat.reduceAdd, Nat.reduceSub, Nat.reduceMul, Nat.reduceDiv, Nat.reduceMod, Nat.reduceLeDiff, Nat.reduceLT, Nat.reduceBEq, Int.reduceEq, Int.reduceBEq, Int.reduceBNe, Int.reduceLT, Int.reduceLE, Int.reduceAdd, Int.reduceSub, Int.reduceNeg, Int.reduceToNat, Int.reducePow, Nat.reducePow, Int.reduceMul, Int.reduceDiv, ↓s_law_ExpireMany, h1, h2, h3, e_known]
  by_cases h4 : 200 < b
  · refine any_of (H1 := H) (d_law_ExpireMany _ _ H ?_)
    simp (disch := first | with_reducible rfl | assumption | omega | rfl | (simp only [go_sem]; first | done | omega)) only [go_sem, ↓reduceIte, reduceCtorEq, Nat.reduceEqDiff, Nat.reduceAdd, Nat.reduceSub, Nat.reduceMul, Nat.reduceDiv, Nat.reduceMod, Nat.reduceLeDiff, Nat.reduceLT, Nat.reduceBEq, Int.reduceEq, Int.reduceBEq, Int.reduceBNe, Int.reduceLT, Int.reduceLE, Int.reduceAdd, Int.reduceSub, Int.reduceNeg, Int.reduceToNat, Int.reducePow, Nat.reducePow, Int.reduceMul, Int.reduceDiv, ↓s_law_ExpireMany, h1, h2, h3, h4, e_known]
  obtain ⟨many, rfl⟩ : ∃ k : Nat, a = (k : Int) := ⟨a.toNat, by omega⟩
  obtain ⟨tick, rfl⟩ : ∃ k : Nat, b = (k : Int) := ⟨b.toNat, by omega⟩
  obtain ⟨H1, hH1⟩ : ∃ H1, H.push (.cells [.slice none 0 0, .map none, .int .i64 0] T.expire_Store true) = H1 := ⟨_, rfl⟩
  have n1 : H1.n = H.n + 1 := by rw [← hH1]; rfl
  have s1 : Still H H1 := by rw [← hH1]; exact (Fr.refl H).push _
  have r0 : StR H1 H.n none [] (SM (min 0 20000)) 0 := r_empty (by rw [← hH1]; exact push_f_eq rfl) (by omega)
  obtain ⟨m2, E2, H2, g1, ok2, r2⟩ := l_many (c := H.n) many (.int .i64 (tick : Int)) (by omega) many 0 none [] H1 (by omega) (s1.ok ok) r0
  have g1 : ∀ K, l_law_ExpireMany_0 (.int .i64 (many : Int)) (.int .i64 (tick : Int)) (pt H.n) (.int .i64 1) H1 (blkK [0, 1, 5] 0 K) = K .normal [(0, .int .i64 (many : Int)), (1, .int .i64 (tick : Int)), (5, pt H.n)] H2 := g1
  obtain ⟨n, hn⟩ : ∃ n, min many 20000 = n := ⟨_, rfl⟩
  obtain ⟨gone, hgo⟩ : ∃ g, min n tick = g := ⟨_, rfl⟩
  rw [hn] at r2
  have mn1 : xbuiltin Try.prog .min [T.int, T.int] [.int .i64 (many : Int), .int .i64 20000] H2 = some (.val (.int .i64 (n : Int)) H2) := by
    have := minN (P := Try.prog) (H := H2) (ts := [T.int, T.int]) (q := .i64) (a := many) (b := 20000)
    rw [hn] at this
    exact this
  have mn2 : xbuiltin Try.prog .min [T.int, T.int] [.int .i64 (n : Int), .int .i64 (tick : Int)] H2 = some (.val (.int .i64 (gone : Int)) H2) := by
    have := minN (P := Try.prog) (H := H2) (ts := [T.int, T.int]) (q := .i64) (a := n) (b := tick)
    rw [hgo] at this
    exact this
  obtain ⟨m3, E3, H3, e3, r3, u3⟩ := q_xPass ok2 r2 (tick : Int)
  have hp : passX 0 (tick : Int) = (0, tick) := by
    unfold passX
    rw [if_neg (by omega), if_neg (by omega), Int.toNat_natCast]
  rw [hp] at e3 r3
  have e3 : CC F.expire_Store_Pass [pt H.n, .int .i64 (tick : Int)] H2 = some (.int .i64 0, H3) := e3
  have r3 : StR H3 H.n m3 E3 (SM n) tick := r3
  have ok3 := u3.fr.ok ok2
  have hw : (wS (SM n) tick).length = gone := by rw [wS_len, SM_due, hgo]
  have e4 := q_Waiting r3
  rw [hw] at e4
  have e5 := q_xLen r3
  rw [SM_len, hw] at e5
  have hsub : ((n - gone : Nat) : Int) = (n : Int) - (gone : Int) := by omega
  rw [hsub] at e5
  obtain ⟨v6, m6, E6, H6, e6, rd6, r6, u6, _⟩ := q_xSweep ok3 r3 30000
  have h30 : (30000 : Int).toNat = 30000 := by omega
  have ht : (wS (SM n) tick).take (30000 : Int).toNat = wS (SM n) tick := by
    rw [h30]
    exact List.take_of_length_le (by rw [hw]; omega)
  rw [if_neg (by decide), ht] at rd6 r6
  rw [if_neg (by decide)] at e6
  have hl6 := rd6.lenS
  rw [hw] at hl6
  have ok6 := u6.fr.ok ok3
  rw [sweep_all r3.srt] at r6
  have hw6 : wS ((SM n).filter fun x => !dueB tick x) tick = [] := wS_none fun x hx => by
    have := (List.mem_filter.1 hx).2
    simpa using this
  have hlen6 : ((SM n).filter fun x => !dueB tick x).length = n - gone := by
    have h := alive_len r3.srt tick
    rw [SM_len, hw] at h
    rw [← h]
    unfold aliveS pl
    rw [List.filter_map, List.length_map]
    congr 1
    refine List.filter_congr fun x hx => ?_
    show _ = (!endB (SM n) tick x.key)
    rw [endB_mem r3.srt hx]
  have e7 := q_Waiting r6
  rw [hw6] at e7
  have e7 : CC F.expire_Store_Waiting [pt H.n] H6 = some (.int .i64 0, H6) := e7
  have e8 := q_xLen r6
  rw [hw6, hlen6] at e8
  have e8 : CC F.expire_Store_Len [pt H.n] H6 = some (.int .i64 ((n : Int) - (gone : Int)), H6) := by rw [← hsub]; exact e8
  obtain ⟨v9, H9, e9, o9, s9, _⟩ := q_xAlive ok6 r6
  have hl9 := o9.rd.lenS
  rw [alive_len r6.srt, hw6, hlen6] at hl9
  have hl9 : lenS v9 = some (.int .i64 ((n : Int) - (gone : Int))) := by rw [← hsub]; exact hl9
  obtain ⟨D, hD⟩ : ∃ D, (n : Int) - (gone : Int) = D := ⟨_, rfl⟩
  have hs1 : ∀ ox oy, xbin Try.prog .sub T.int ox oy (.int .i64 (n : Int)) (.int .i64 (gone : Int)) = some (.int .i64 D) := fun ox oy => by rw [sub_i64 (by omega), hD]
  rw [hD] at e5 e8 hl9
  refine any_of (H1 := H9) (d_law_ExpireMany _ _ H ?_)
  simp (disch := first | with_reducible rfl | assumption | omega | rfl | (simp only [go_sem]; first | done | omega)) only [go_sem, ↓reduceIte, reduceCtorEq, Nat.reduceEqDiff, Nat.reduceAdd, Nat.reduceSub, Nat.reduceMul, Nat.reduceDiv, Nat.reduceMod, Nat.reduceLeDiff, Nat.reduceLT, Nat.reduceBEq, Int.reduceEq, Int.reduceBEq, Int.reduceBNe, Int.reduceLT, Int.reduceLE, Int.reduceAdd, Int.reduceSub, Int.reduceNeg, Int.reduceToNat, Int.reducePow, Nat.reducePow, Int.reduceMul, Int.reduceDiv, ↓s_law_ExpireMany, h1, h2, h3, h4, hH1, bldS_nil, g1, ↓mn1, mn1, ↓mn2, mn2, ↓enterK_eq e3, enterK_eq e3, ↓enterK_eq e4, enterK_eq e4, ↓enterK_eq e5, enterK_eq e5, ↓hs1, hs1, ↓enterK_eq e6, enterK_eq e6, hl6, ↓enterK_eq e7, enterK_eq e7, ↓enterK_eq e8, enterK_eq e8, ↓enterK_eq e9, enterK_eq e9, hl9, e_known]

theorem run_ExpireMany (a b : Int) (_ : (Lit.int .i64 a).wf = true) (_ : (Lit.int .i64 b).wf = true) : ∃ k H', dCall Try.prog prims1 hints k F.law_ExpireMany [.int .i64 a, .int .i64 b] H0 = some (.bool true, H') := by
  obtain ⟨H', h⟩ := q_ExpireMany a b H0 H0_ok
  obtain ⟨k, h⟩ := D_run h
  exact ⟨k, _, h⟩

end Go.Proofs.Ythjjkinpbpealaa

/-
  The law ExpireMany: for every input it returns true, and its input reads as it did.
  Conditions: none. By an AI agent.
-/
namespace Go.Proofs.Ythjjkinpbpealaa.expireMany
open Go.ChangeShapes Go.WideShapes Go.ChangeAt Go.RowKit
open Go.ChangeMaps (open_string shut_string)
set_option linter.unusedVariables false
theorem own : ownKnob Try.prog.godebug = none := by kernel_rfl
set_option maxRecDepth 100000 in
theorem lifted (os : Os) (started : os.Started) (H : Type) (enc : TypeId × Value → H) :
    ReturnsInHanded {} Try.checked os 3 .any (Rows.expireManySpec.pre6 enc Try.prog Try.f3 Rows.expireManyRow.domain false) (Rows.expireManySpec.post enc Try.prog Try.f3 false true false false) := by
  refine returnsInHanded_of_change_sized (C := Try.checked) own started (by kernel_rfl) Try.func3
    (ChangeSpec.witness6 (enc := enc) (C := Try.checked) false ⟨#[], #[.int .i64 0, .int .i64 0], []⟩ 8 (by kernel_rfl) (by kernel_rfl) (by kernel_rfl) (by kernel_rfl)) ?_
  intro W base args ds gs before hval0 hW hcnd hsz0 _
  have hsz : (DataW.weightsEach Try.prog (Try.f3.params.toList ++ Rows.expireManySpec.plain.varTypes Try.prog) (ds ++ gs)).all (· ≤ reachBytes) = true := hsz0
  have hval : ∀ (j : Nat) t v, Try.f3.params[j]? = some t → args[j]? = some v → Value.okWide Try.prog W .any base t v := hval0
  have hW' := hW
  obtain ⟨p, q, hA0, hV, rfl, hfz, hnd⟩ := hW
  have hA : DataW.TrodAll enc Try.prog W 0 (fun _ => true) true Try.f3.params.toList args.toList ds p := hA0
  rw [Try.params3] at hA hval hsz
  obtain ⟨v0, vs0, d0, ds0, p0, q0, hargs, rfl, rfl, h0, r0⟩ := trodAll_cons hA
  obtain ⟨v1, vs1, d1, ds1, p1, q1, rfl, rfl, rfl, h1, r1⟩ := trodAll_cons r0
  obtain ⟨rfl, rfl, rfl⟩ := trodAll_nil r1
  obtain rfl : args = #[v0, v1] := by cases args; simp_all
  obtain ⟨rfl, rfl⟩ := trodVars_none hV
  obtain ⟨a0, rfl, rfl, rfl, w0⟩ := open_int Try.underlying3 (hval 0 3 v0 rfl rfl) h0
  obtain ⟨a1, rfl, rfl, rfl, w1⟩ := open_int Try.underlying3 (hval 1 3 v1 rfl rfl) h1
  clear hA0 hval0 hsz0 hsz
  refine (Eng.law_calls0 (args := #[.int .i64 a0, .int .i64 a1]) prims1_ok mixed (fun _ hg => absurd hg List.not_mem_nil) rfl (run_ExpireMany a0 a1 w0 w1)).mono fun e W' ⟨he, bel⟩ => ?_
  subst he
  exact ⟨_, rfl, _, _, _, [], _, [], hW', trodAll_mk1 (shut_bool Try.underlying4 _), (trodAll_cons_mk (shut_int Try.underlying3 w0) (trodAll_cons_mk (shut_int Try.underlying3 w1) trodAll_mk0)), rfl, bel.frame _, fun h => by cases h⟩

theorem over : Rows.expireManyRow.holds Try.pinned (OpenSpec.ofChange Rows.expireManySpec) :=
  OpenClaim.holds_of_wide 3 Try.f3 rfl rfl rfl rfl rfl rfl rfl ⟨rfl, rfl, rfl, rfl, rfl⟩ rfl rfl rfl rfl rfl (by kernel_rfl) Try.func3 (by kernel_rfl)
    (of_decide_eq_true (by kernel_rfl)) (by unfold Func.isWrapper; first | (rw [if_pos (by decide +kernel)]; kernel_rfl) | (rw [if_neg (by decide +kernel)]; exact ⟨rfl, rfl⟩))
    (fun os started H enc _ => lifted os started H enc)
theorem proved : Rows.ExpireManySaid := over
#print axioms proved
end Go.Proofs.Ythjjkinpbpealaa.expireMany
namespace Go.Proofs.Ythjjkinpbpealaa
/-- The row, under a short name, for the claim. -/
theorem expireMany_holds : Rows.ExpireManySaid := expireMany.proved
end Go.Proofs.Ythjjkinpbpealaa
