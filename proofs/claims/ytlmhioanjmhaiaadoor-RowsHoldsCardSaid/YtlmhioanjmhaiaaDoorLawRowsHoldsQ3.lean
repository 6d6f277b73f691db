/-
  5 texts in one (merge.py): Pr ShRowsHolds DsRowsHolds Ps LawRowsHolds.
  Conditions: none. By an AI agent.
-/
import Derived.Test.YtlmhioanjmhaiaaDoorLawRowsHoldsQ2
import Derived.Test.YtlmhioanjmhaiaaDoorChecked
import Derived.KernelRfl
import Derived.Test.YtlmhioanjmhaiaaDoorRows
import Derived.Test.YtlmhioanjmhaiaaDoorCards
import Derived.Test.YtlmhioanjmhaiaaDoorTie
import Derived.WalkKit
import Derived.ProofKit
import Derived.OpenShut
import Derived.ShutString
import Derived.ChangeOld
import Derived.Below
import Derived.SizedLaws
import Derived.ChangeArms
import Derived.Carry
import Derived.Lay
import Derived.PinnedBridge
import Derived.LaidOnce
import Derived.SevenTiedAt
import Derived.HandedShaped
import Derived.Shelf.Vars

/-
  Chapter 40: plain: the bytes of cells come in the order of the cells; spans.
  Conditions: none. By an AI agent.
-/
set_option maxRecDepth 10000
set_option linter.unusedSimpArgs false
set_option linter.unusedVariables false
namespace Go.Proofs.YtlmhioanjmhaiaaDoor
open Go Eng

/-- Two strings that differ at a place in which the first one has the smaller byte. -/
def Dif (a b : List UInt8) : Prop := ∃ (p : List UInt8) (u v : UInt8) (x y : List UInt8), a = p ++ u :: x ∧ b = p ++ v :: y ∧ u < v
theorem Dif.here {u v : UInt8} {x y : List UInt8} (h : u < v) : Dif (u :: x) (v :: y) := ⟨[], u, v, x, y, rfl, rfl, h⟩
theorem Dif.pre {a b : List UInt8} (h : Dif a b) (q : List UInt8) : Dif (q ++ a) (q ++ b) := by
  obtain ⟨p, u, v, x, y, rfl, rfl, h⟩ := h
  exact ⟨q ++ p, u, v, x, y, by simp, by simp, h⟩
theorem Dif.cons {a b : List UInt8} (h : Dif a b) (c : UInt8) : Dif (c :: a) (c :: b) := h.pre [c]
theorem Dif.app {a b : List UInt8} (h : Dif a b) (x y : List UInt8) : Dif (a ++ x) (b ++ y) := by
  obtain ⟨p, u, v, x', y', rfl, rfl, h⟩ := h
  exact ⟨p, u, v, x' ++ x, y' ++ y, by simp, by simp, h⟩
theorem u8lt {a b : UInt8} : a < b ↔ a.toNat < b.toNat := UInt8.lt_iff_toNat_lt
theorem u8irr (a : UInt8) : ¬ a < a := by rw [u8lt]; omega
theorem less_pre : ∀ (p a b : List UInt8), Op.bytesLess (p ++ a) (p ++ b) = Op.bytesLess a b
  | [], _, _ => rfl
  | c :: p, a, b => by
    show (decide (c < c) || (c == c && Op.bytesLess (p ++ a) (p ++ b))) = _
    rw [less_pre p a b, decide_eq_false (u8irr c)]
    simp
theorem Dif.less {a b : List UInt8} (h : Dif a b) : Op.bytesLess a b = true ∧ Op.bytesLess b a = false := by
  obtain ⟨p, u, v, x, y, rfl, rfl, h⟩ := h
  have h' := u8lt.1 h
  rw [less_pre, less_pre]
  constructor
  · show (decide (u < v) || _) = true
    rw [decide_eq_true h]; rfl
  · show (decide (v < u) || (v == u && _)) = false
    have h1 : ¬ v < u := by rw [u8lt]; omega
    have h2 : (v == u) = false := by
      rw [beq_eq_false_iff_ne]; rintro rfl; exact u8irr v h
    rw [decide_eq_false h1, h2]; rfl
theorem Dif.take {a b : List UInt8} (h : Dif a b) (n : Nat) : a.take n ≠ b := by
  obtain ⟨p, u, v, x, y, rfl, rfl, h⟩ := h
  intro e
  have h1 := congrArg (fun l => l[p.length]?) e
  simp only [List.getElem?_take, List.getElem?_append_right (Nat.le_refl _), Nat.sub_self, List.getElem?_cons_zero] at h1
  split at h1
  · cases h1; exact u8irr _ h
  · cases h1
theorem Dif.take' {a b : List UInt8} (h : Dif a b) (n : Nat) : b.take n ≠ a := by
  obtain ⟨p, u, v, x, y, rfl, rfl, h⟩ := h
  intro e
  have h1 := congrArg (fun l => l[p.length]?) e
  simp only [List.getElem?_take, List.getElem?_append_right (Nat.le_refl _), Nat.sub_self, List.getElem?_cons_zero] at h1
  split at h1
  · cases h1; exact u8irr _ h
  · cases h1
theorem Dif.ne {a b : List UInt8} (h : Dif a b) : a ≠ b := fun e => h.take a.length (by rw [List.take_length]; exact e)

/-! ### numbers -/
theorem numF_hi (l : List UInt8) : numF 0 l < 256 ^ l.length := by have := numF_lt l 0; simpa using this
theorem numF_ge : ∀ (l : List UInt8) (a : Nat), a * 256 ^ l.length ≤ numF a l
  | [], a => by simp [numF]
  | c :: l, a => by
    have := numF_ge l (a * 256 + c.toNat)
    rw [numF, List.length_cons, Nat.pow_succ, Nat.mul_comm (256 ^ l.length) 256, ← Nat.mul_assoc]
    exact Nat.le_trans (Nat.mul_le_mul_right _ (by omega)) this
theorem dif_num {a b : List UInt8} (hl : a.length = b.length) (h : Dif a b) (z : Nat) : numF z a < numF z b := by
  obtain ⟨p, u, v, x, y, rfl, rfl, h⟩ := h
  have hxy : x.length = y.length := by simp at hl; omega
  have key : ∀ (p : List UInt8) (z : Nat), numF z (p ++ u :: x) < numF z (p ++ v :: y) := by
    intro p
    induction p with
    | nil =>
      intro z
      show numF (z * 256 + u.toNat) x < numF (z * 256 + v.toNat) y
      have h1 := numF_lt x (z * 256 + u.toNat)
      have h2 := numF_ge y (z * 256 + v.toNat)
      rw [← hxy] at h2
      have h3 : (z * 256 + u.toNat + 1) * 256 ^ x.length ≤ (z * 256 + v.toNat) * 256 ^ x.length := Nat.mul_le_mul_right _ (by have := u8lt.1 h; omega)
      omega
    | cons c p ih => intro z; exact ih _
  exact key p z
theorem dif_three : ∀ (a b : List UInt8), a.length = b.length → a = b ∨ Dif a b ∨ Dif b a
  | [], [], _ => .inl rfl
  | [], _ :: _, h => by simp at h
  | _ :: _, [], h => by simp at h
  | c :: a, d :: b, h => by
    by_cases h1 : c < d
    · exact .inr (.inl (.here h1))
    · by_cases h2 : d < c
      · exact .inr (.inr (.here h2))
      · have : c = d := by
          apply UInt8.toNat_inj.1
          rw [u8lt] at h1 h2; omega
        subst this
        rcases dif_three a b (by simpa using h) with rfl | h | h
        · exact .inl rfl
        · exact .inr (.inl (h.cons c))
        · exact .inr (.inr (h.cons c))
theorem dif_of_num {a b : List UInt8} (hl : a.length = b.length) (h : numF 0 a < numF 0 b) : Dif a b := by
  rcases dif_three a b hl with rfl | h1 | h1
  · omega
  · exact h1
  · have := dif_num hl.symm h1 0; omega
theorem dg_low : ∀ (k n : Nat), n < 256 ^ k → n ≠ 0 → 256 ^ ((dg n).length - 1) ≤ n ∧ 1 ≤ (dg n).length
  | 0, n, h, h0 => by
    have h : n < 1 := h
    omega
  | k + 1, n, h, h0 => by
    rw [dg_pos h0]
    have hn : n / 256 < 256 ^ k := by rw [Nat.pow_succ] at h; omega
    by_cases h1 : n / 256 = 0
    · rw [h1, dg_zero]; simp; omega
    · obtain ⟨a1, a2⟩ := dg_low k (n / 256) hn h1
      have e : ((dg (n / 256) ++ [by8 n]).length - 1) = ((dg (n / 256)).length - 1) + 1 := by simp; omega
      rw [e, Nat.pow_succ]
      refine ⟨by omega, by simp⟩
theorem dg_mono {u v : Nat} (hv : v < 256 ^ 8) (h : u < v) : (dg u).length ≤ (dg v).length := by
  have hu : u < 256 ^ 8 := by omega
  apply Nat.le_of_not_lt
  intro hl
  by_cases h0 : u = 0
  · subst h0; rw [dg_zero] at hl; simp at hl
  · obtain ⟨a1, a2⟩ := dg_low 8 u hu h0
    have h1 := numF_hi (dg v)
    rw [numF_dg 8 v hv] at h1
    have h2 : 256 ^ (dg v).length ≤ 256 ^ ((dg u).length - 1) := Nat.pow_le_pow_right (by decide) (by omega)
    omega
theorem dif_dg {u v : Nat} (hv : v < 256 ^ 8) (h : u < v) (b : Nat) (hb : b ≤ 128) : Dif (by8 (b + (dg u).length) :: dg u) (by8 (b + (dg v).length) :: dg v) := by
  have hm := dg_mono hv h
  have l2 := dg_len 8 v hv
  by_cases he : (dg u).length = (dg v).length
  · rw [he]
    exact (dif_of_num he (by rw [numF_dg 8 u (by omega), numF_dg 8 v hv]; exact h)).cons _
  · refine .here ?_
    rw [u8lt, by8_nat (by omega), by8_nat (by omega)]
    omega
theorem dif_inv {a b : List UInt8} (h : Dif a b) : Dif (b.map inv8) (a.map inv8) := by
  obtain ⟨p, u, v, x, y, rfl, rfl, h⟩ := h
  refine ⟨p.map inv8, inv8 v, inv8 u, y.map inv8, x.map inv8, by simp, by simp, ?_⟩
  have h1 := u8lt.1 h
  have h2 := u.toNat_lt
  have h3 := v.toNat_lt
  rw [u8lt, show inv8 v = by8 (255 - v.toNat) from rfl, show inv8 u = by8 (255 - u.toNat) from rfl, by8_nat (by omega), by8_nat (by omega)]
  omega
theorem dif_neg {u v : Nat} (hv : v < 256 ^ 8) (h : u < v) : Dif (by8 (127 - (dg v).length) :: (dg v).map inv8) (by8 (127 - (dg u).length) :: (dg u).map inv8) := by
  have hm := dg_mono hv h
  have l2 := dg_len 8 v hv
  by_cases he : (dg u).length = (dg v).length
  · rw [he]
    exact (dif_inv (dif_of_num he (by rw [numF_dg 8 u (by omega), numF_dg 8 v hv]; exact h))).cons _
  · refine .here ?_
    rw [u8lt, by8_nat (by omega), by8_nat (by omega)]
    omega

/-! ### texts -/
theorem dif_esc : ∀ (a b : List UInt8), Op.bytesLess a b = true → Dif (esc a ++ [0, 1]) (esc b ++ [0, 1])
  | _, [], h => by cases ‹List UInt8› <;> simp [Op.bytesLess] at h
  | [], b :: y, _ => by
    by_cases hb : b = 0
    · subst hb
      simp only [esc, if_true]
      exact (Dif.here (x := []) (y := esc y ++ [0, 1]) (show (1 : UInt8) < 255 by decide)).cons 0
    · simp only [esc, hb, if_false]
      refine .here ?_
      rw [u8lt]
      have : b.toNat ≠ 0 := fun e => hb (UInt8.toNat_inj.1 e)
      show 0 < b.toNat
      omega
  | a :: x, b :: y, h9 => by
    have h : (decide (a < b) || (a == b && Op.bytesLess x y)) = true := h9
    by_cases hlt : a < b
    · have hb : b ≠ 0 := by
        rintro rfl
        rw [u8lt] at hlt
        exact absurd hlt (Nat.not_lt_zero _)
      by_cases ha : a = 0
      · subst ha
        simp only [esc, if_true, hb, if_false]
        exact .here hlt
      · simp only [esc, ha, hb, if_false]
        exact .here hlt
    · rw [decide_eq_false hlt] at h
      simp only [Bool.false_or, Bool.and_eq_true, beq_iff_eq] at h
      have hxy := h.2
      have hab := h.1
      clear h h9
      subst hab
      have ih := dif_esc x y hxy
      by_cases ha : a = 0
      · subst ha
        simp only [esc, if_true]
        exact (ih.cons 255).cons 0
      · simp only [esc, ha, if_false]
        exact ih.cons a

/-! ### cells -/
theorem less_three : ∀ a b : List UInt8, Op.bytesLess a b = true ∨ a = b ∨ Op.bytesLess b a = true
  | [], [] => .inr (.inl rfl)
  | [], _ :: _ => .inl rfl
  | _ :: _, [] => .inr (.inr rfl)
  | a :: x, b :: y => by
    by_cases h1 : a < b
    · exact .inl (by show (decide (a < b) || _) = true; rw [decide_eq_true h1]; rfl)
    · by_cases h2 : b < a
      · exact .inr (.inr (by show (decide (b < a) || _) = true; rw [decide_eq_true h2]; rfl))
      · have : a = b := by
          apply UInt8.toNat_inj.1
          rw [u8lt] at h1 h2; omega
        subst this
        have e : ∀ x y, Op.bytesLess (a :: x) (a :: y) = Op.bytesLess x y := fun x y => less_pre [a] x y
        rw [e, e]
        rcases less_three x y with h | rfl | h
        · exact .inl h
        · exact .inr (.inl rfl)
        · exact .inr (.inr h)
theorem less_irr : ∀ a : List UInt8, Op.bytesLess a a = false
  | [] => rfl
  | a :: x => by
    have : Op.bytesLess (a :: x) (a :: x) = Op.bytesLess x x := less_pre [a] x x
    rw [this]; exact less_irr x
theorem dif_of_less_esc {a b : ByteArray} : lsS a b = true → Dif (esc (bl a) ++ [0, 1]) (esc (bl b) ++ [0, 1]) := fun h => dif_esc _ _ h

/-- Of two proper cells of a kind: what Compare says is how their bytes lie. -/
theorem cell_three {c d : Cl} {k : Int} (hk : kindP k = true) (hc : CellOk c) (hd : CellOk d) (pc : properP c k = true) (pd : properP d k = true) :
    (cmpC c d < 0 ∧ Dif (enc c) (enc d)) ∨ (cmpC c d = 0 ∧ c = d) ∨ (0 < cmpC c d ∧ Dif (enc d) (enc c)) := by
  obtain ⟨k1, u1, i1, s1, b1⟩ := c
  obtain ⟨k2, u2, i2, s2, b2⟩ := d
  unfold properP at pc pd
  simp only [decide_eq_true_eq] at pc pd
  obtain ⟨rfl, hu1, hi1, hs1, hb1⟩ := pc
  obtain ⟨rfl, hu2, hi2, hs2, hb2⟩ := pd
  obtain ⟨⟨a1, a2⟩, ⟨a3, a4⟩, _⟩ := hc
  obtain ⟨⟨d1, d2⟩, ⟨d3, d4⟩, _⟩ := hd
  dsimp only at a1 a2 a3 a4 d1 d2 d3 d4
  have p8 : (256 : Nat) ^ 8 = 18446744073709551616 := by decide
  unfold cmpC enc
  dsimp only
  rw [if_pos rfl]
  by_cases h1 : k2 = 1
  · subst h1
    have e1 := hi1.resolve_left (by decide); have e2 := mk_nil (hs1.resolve_left (by decide)); have e3 := hb1.resolve_left (by decide)
    have e4 := hi2.resolve_left (by decide); have e5 := mk_nil (hs2.resolve_left (by decide)); have e6 := hb2.resolve_left (by decide)
    subst e1 e2 e3 e4 e5 e6
    simp only [if_true]
    by_cases h : u1 < u2
    · have := dif_dg (u := u1.toNat) (v := u2.toNat) (by omega) (by omega) 0 (by decide)
      rw [Nat.zero_add, Nat.zero_add] at this
      exact .inl ⟨by simp [c3, h], this⟩
    · by_cases h' : u2 < u1
      · have := dif_dg (u := u2.toNat) (v := u1.toNat) (by omega) (by omega) 0 (by decide)
        rw [Nat.zero_add, Nat.zero_add] at this
        exact .inr (.inr ⟨by simp [c3, h, h'], this⟩)
      · exact .inr (.inl ⟨by simp [c3, h, h'], by rw [show u1 = u2 by omega]⟩)
  rw [if_neg h1, if_neg h1, if_neg h1]
  have e1 := hu1.resolve_left h1
  have e2 := hu2.resolve_left h1
  subst e1 e2
  by_cases h2 : k2 = 2
  · subst h2
    have e2 := mk_nil (hs1.resolve_left (by decide)); have e3 := hb1.resolve_left (by decide)
    have e5 := mk_nil (hs2.resolve_left (by decide)); have e6 := hb2.resolve_left (by decide)
    subst e2 e3 e5 e6
    simp only [if_true]
    have key : ∀ x y : Int, x < y → -9223372036854775808 ≤ x → y < 9223372036854775808 → Dif (if 0 ≤ x then by8 (128 + (dg x.toNat).length) :: dg x.toNat else by8 (127 - (dg (-(x + 1)).toNat).length) :: (dg (-(x + 1)).toNat).map inv8) (if 0 ≤ y then by8 (128 + (dg y.toNat).length) :: dg y.toNat else by8 (127 - (dg (-(y + 1)).toNat).length) :: (dg (-(y + 1)).toNat).map inv8) := by
      intro x y hxy hx hy
      by_cases h0 : 0 ≤ x
      · rw [if_pos h0, if_pos (by omega)]
        exact dif_dg (by omega) (by omega) 128 (by decide)
      · rw [if_neg h0]
        have l1 := dg_len 8 (-(x + 1)).toNat (by omega)
        by_cases h0' : 0 ≤ y
        · rw [if_pos h0']
          have l2 := dg_len 8 y.toNat (by omega)
          refine .here ?_
          rw [u8lt, by8_nat (by omega), by8_nat (by omega)]
          omega
        · rw [if_neg h0']
          exact dif_neg (by omega) (by omega)
    by_cases h : i1 < i2
    · exact .inl ⟨by simp [c3, h], key i1 i2 h (by omega) (by omega)⟩
    · by_cases h' : i2 < i1
      · exact .inr (.inr ⟨by simp [c3, h, h'], key i2 i1 h' (by omega) (by omega)⟩)
      · exact .inr (.inl ⟨by simp [c3, h, h'], by rw [show i1 = i2 by omega]⟩)
  rw [if_neg h2, if_neg h2, if_neg h2]
  have e1 := hi1.resolve_left h2
  have e2 := hi2.resolve_left h2
  subst e1 e2
  by_cases h3 : k2 = 3
  · subst h3
    have e3 := hb1.resolve_left (by decide)
    have e6 := hb2.resolve_left (by decide)
    subst e3 e6
    simp only [if_true]
    rcases less_three (bl s1) (bl s2) with h | h | h
    · exact .inl ⟨by simp [c3, lsS, h], dif_esc _ _ h⟩
    · have : s1 = s2 := bl_inj h
      subst this
      refine .inr (.inl ⟨?_, rfl⟩)
      simp [c3, lsS, gtS, less_irr]
    · have hd := dif_esc _ _ h
      have hn : Op.bytesLess (bl s1) (bl s2) = false := by
        cases hq : Op.bytesLess (bl s1) (bl s2) with
        | false => rfl
        | true => have := (dif_esc _ _ hq).less.2; rw [hd.less.1] at this; cases this
      have hne : (bl s1 == bl s2) = false := by
        rw [beq_eq_false_iff_ne]
        intro e
        rw [e, less_irr] at h; cases h
      exact .inr (.inr ⟨by simp [c3, lsS, gtS, hn, hne], hd⟩)
  rw [if_neg h3, if_neg h3, if_neg h3]
  have e1 := mk_nil (hs1.resolve_left h3)
  have e2 := mk_nil (hs2.resolve_left h3)
  subst e1 e2
  have h4 : k2 = 4 := by
    unfold kindP at hk
    simp only [Bool.and_eq_true, decide_eq_true_eq] at hk
    omega
  subst h4
  simp only [if_true]
  cases b1 <;> cases b2
  · exact .inr (.inl ⟨by simp [c3], rfl⟩)
  · exact .inl ⟨by simp [c3], .here (by decide)⟩
  · exact .inr (.inr ⟨by simp [c3], .here (by decide)⟩)
  · exact .inr (.inl ⟨by simp [c3], rfl⟩)

/-- The first difference of two lists of cells. -/
def cmpL : List Cl → List Cl → Int
  | [], _ => 0
  | _ :: _, [] => 0
  | a :: x, b :: y => if cmpC a b = 0 then cmpL x y else cmpC a b
theorem cells_three : ∀ (ks : List Int) (l m : List Cl), (∀ k ∈ ks, kindP k = true) → (∀ c ∈ l, CellOk c) → (∀ c ∈ m, CellOk c) → areP l ks = true → areP m ks = true →
    (cmpL l m < 0 ∧ Dif (encs l) (encs m)) ∨ (cmpL l m = 0 ∧ l = m) ∨ (0 < cmpL l m ∧ Dif (encs m) (encs l))
  | [], [], [], _, _, _, _, _ => .inr (.inl ⟨rfl, rfl⟩)
  | [], _ :: _, _, _, _, _, h, _ => by simp [areP] at h
  | [], [], _ :: _, _, _, _, _, h => by simp [areP] at h
  | _ :: _, [], _, _, _, _, h, _ => by simp [areP] at h
  | _ :: _, _ :: _, [], _, _, _, _, h => by simp [areP] at h
  | k :: ks, a :: x, b :: y, hk, hl, hm, h1, h2 => by
    have h1 : x.length = ks.length ∧ properP a k = true ∧ are2 x ks = true := by
      unfold areP at h1
      simp only [List.length_cons, are2, Bool.and_eq_true, decide_eq_true_eq] at h1
      exact ⟨by omega, h1.2.1, h1.2.2⟩
    have h2 : y.length = ks.length ∧ properP b k = true ∧ are2 y ks = true := by
      unfold areP at h2
      simp only [List.length_cons, are2, Bool.and_eq_true, decide_eq_true_eq] at h2
      exact ⟨by omega, h2.2.1, h2.2.2⟩
    have ih := cells_three ks x y (fun k hk' => hk k (by simp [hk'])) (fun c hc => hl c (by simp [hc])) (fun c hc => hm c (by simp [hc])) (by unfold areP; simp [h1.1, h1.2.2]) (by unfold areP; simp [h2.1, h2.2.2])
    unfold cmpL encs
    rcases cell_three (hk k (by simp)) (hl a (by simp)) (hm b (by simp)) h1.2.1 h2.2.1 with ⟨e, d⟩ | ⟨e, rfl⟩ | ⟨e, d⟩
    · rw [if_neg (by omega)]
      exact .inl ⟨e, d.app _ _⟩
    · rw [if_pos e]
      rcases ih with ⟨e', d'⟩ | ⟨e', rfl⟩ | ⟨e', d'⟩
      · exact .inl ⟨e', d'.pre _⟩
      · exact .inr (.inl ⟨e', rfl⟩)
      · exact .inr (.inr ⟨e', d'.pre _⟩)
    · rw [if_neg (by omega)]
      exact .inr (.inr ⟨e, d.app _ _⟩)

/-! ### spans -/
theorem ff_span : ∀ (ff p : List UInt8), (∀ c ∈ ff, c = 255) → (Op.bytesLess p ff = false ↔ ff.isPrefixOf p = true)
  | [], p, _ => by cases p <;> simp [Op.bytesLess]
  | c :: ff, [], _ => by simp [Op.bytesLess, List.isPrefixOf]
  | c :: ff, x :: p, h => by
    have hc := h c (by simp)
    subst hc
    have ih := ff_span ff p fun c hc => h c (by simp [hc])
    show ((decide (x < 255) || (x == 255 && Op.bytesLess p ff)) = false) ↔ ((255 == x) && ff.isPrefixOf p) = true
    by_cases hx : x = 255
    · subst hx
      rw [decide_eq_false (u8irr _)]
      simpa using ih
    · have : x < 255 := by
        rw [u8lt]
        have h1 := x.toNat_lt
        have h2 : x.toNat ≠ 255 := fun e => hx (UInt8.toNat_inj.1 (by rw [e]; rfl))
        show x.toNat < 255
        omega
      rw [decide_eq_true this]
      have h2 : ((255 : UInt8) == x) = false := by rw [beq_eq_false_iff_ne]; exact fun e => hx e.symm
      rw [h2]
      simp
theorem mid_span (c : UInt8) (hc : c ≠ 255) (ff : List UInt8) (hf : ∀ c ∈ ff, c = 255) : ∀ (q p : List UInt8), (Op.bytesLess p (q ++ c :: ff) = false ∧ Op.bytesLess p (q ++ [by8 (c.toNat + 1)]) = true) ↔ (q ++ c :: ff).isPrefixOf p = true
  | [], [] => by simp [Op.bytesLess, List.isPrefixOf]
  | [], x :: p => by
    have ih := ff_span ff p hf
    have hc2 : c.toNat < 255 := by
      have h1 := c.toNat_lt
      have h2 : c.toNat ≠ 255 := fun e => hc (UInt8.toNat_inj.1 (by rw [e]; rfl))
      omega
    show ((decide (x < c) || (x == c && Op.bytesLess p ff)) = false ∧ (decide (x < by8 (c.toNat + 1)) || (x == by8 (c.toNat + 1) && Op.bytesLess p [])) = true) ↔ ((c == x) && ff.isPrefixOf p) = true
    have hn : Op.bytesLess p [] = false := by cases p <;> rfl
    have e8 : (by8 (c.toNat + 1)).toNat = c.toNat + 1 := by8_nat (by omega)
    rw [hn, Bool.and_false, Bool.or_false]
    by_cases h1 : x < c
    · have h1' := u8lt.1 h1
      rw [decide_eq_true h1]
      have : (c == x) = false := by rw [beq_eq_false_iff_ne]; rintro rfl; exact u8irr _ h1
      rw [this]; simp
    · rw [decide_eq_false h1]
      by_cases h2 : x = c
      · subst h2
        have : x < by8 (x.toNat + 1) := by rw [u8lt, e8]; omega
        rw [decide_eq_true this]
        simpa using ih
      · have : ¬ x < by8 (c.toNat + 1) := by
          rw [u8lt, e8]
          rw [u8lt] at h1
          have : x.toNat ≠ c.toNat := fun e => h2 (UInt8.toNat_inj.1 e)
          omega
        rw [decide_eq_false this]
        have h3 : (c == x) = false := by rw [beq_eq_false_iff_ne]; exact fun e => h2 e.symm
        rw [h3]; simp
  | d :: q, [] => by simp [Op.bytesLess, List.isPrefixOf]
  | d :: q, x :: p => by
    have ih := mid_span c hc ff hf q p
    show ((decide (x < d) || (x == d && Op.bytesLess p (q ++ c :: ff))) = false ∧ (decide (x < d) || (x == d && Op.bytesLess p (q ++ [by8 (c.toNat + 1)]))) = true) ↔ ((d == x) && (q ++ c :: ff).isPrefixOf p) = true
    by_cases h1 : x < d
    · rw [decide_eq_true h1]
      have : (d == x) = false := by rw [beq_eq_false_iff_ne]; rintro rfl; exact u8irr _ h1
      rw [this]; simp
    · rw [decide_eq_false h1]
      by_cases h2 : x = d
      · subst h2; simpa using ih
      · have h3 : (d == x) = false := by rw [beq_eq_false_iff_ne]; exact fun e => h2 e.symm
        have h4 : (x == d) = false := by rw [beq_eq_false_iff_ne]; exact h2
        rw [h3, h4]; simp
theorem trim_ff (l : List UInt8) : ∀ n, n ≤ l.length → ∀ c ∈ (l.take n).drop (trimN l n), c = 255
  | 0, _, c, h => by simp at h
  | n + 1, hn, c, h => by
    unfold trimN at h
    split at h
    · rename_i h2
      have ht : l.take (n + 1) = l.take n ++ [255] := by rw [List.take_add_one, h2]; rfl
      have hle := trimN_le l n
      rw [ht, List.drop_append, List.mem_append] at h
      rcases h with h | h
      · exact trim_ff l n (by omega) c h
      · have := List.mem_of_mem_drop h
        simpa using this
    · rw [List.drop_eq_nil_of_le (by simp; omega)] at h
      cases h
/-- What lies in a span begins with its first key. -/
theorem span_in (a p : List UInt8) : (Op.bytesLess p a = false ∧ (bump a = [] ∨ Op.bytesLess p (bump a) = true)) ↔ a.isPrefixOf p = true := by
  have hff := trim_ff a a.length (Nat.le_refl _)
  rw [List.take_length] at hff
  unfold bump
  cases ht : trimN a a.length with
  | zero =>
    rw [ht, List.drop_zero] at hff
    have := ff_span a p hff
    show (_ ∧ (([] : List UInt8) = [] ∨ _)) ↔ _
    simpa using this
  | succ t =>
    have hle := trimN_le a a.length
    rw [ht] at hff hle
    have hlast := trimN_last a a.length t ht
    have htl : t < a.length := by omega
    have hget : a[t]? = some a[t] := List.getElem?_eq_getElem htl
    have ha : a = a.take t ++ a[t] :: a.drop (t + 1) := by
      have := List.take_append_drop t a
      rw [List.drop_eq_getElem_cons htl] at this
      exact this.symm
    have hne : a[t] ≠ 255 := fun e => hlast (by rw [hget, e])
    have hm := mid_span a[t] hne (a.drop (t + 1)) hff (a.take t) p
    rw [← ha] at hm
    have hb : bumpB a (t + 1) = a.take t ++ [by8 (a[t].toNat + 1)] := by
      show a.take t ++ [by8 ((a.getD t 0).toNat + 1)] = _
      rw [List.getD_eq_getElem?_getD, hget]; rfl
    rw [hb]
    have hnn : ¬ (a.take t ++ [by8 (a[t].toNat + 1)] = []) := by simp
    constructor
    · rintro ⟨h1, h2⟩
      exact hm.1 ⟨h1, h2.resolve_left hnn⟩
    · intro h
      exact ⟨(hm.2 h).1, .inr (hm.2 h).2⟩

theorem encs_app : ∀ l m : List Cl, encs (l ++ m) = encs l ++ encs m
  | [], _ => rfl
  | c :: l, m => by show enc c ++ encs (l ++ m) = _; rw [encs_app l m, encs, List.append_assoc]
theorem encs_inj : ∀ (ks : List Int) (l m : List Cl) (x y : List UInt8), (∀ k ∈ ks, kindP k = true) → (∀ c ∈ l, CellOk c) → (∀ c ∈ m, CellOk c) → areP l ks = true → areP m ks = true → encs l ++ x = encs m ++ y → l = m
  | ks, l, m, x, y, hk, hl, hm, h1, h2, h => by
    have e1 := takesP_enc ks l x hk hl h1
    have e2 := takesP_enc ks m y hk hm h2
    rw [h, e2] at e1
    exact (Option.some.inj e1).symm
theorem isPrefix_iff {a b : List UInt8} : a.isPrefixOf b = true ↔ ∃ r, b = a ++ r := by
  rw [List.isPrefixOf_iff_prefix]
  exact ⟨fun ⟨r, h⟩ => ⟨r, h.symm⟩, fun ⟨r, h⟩ => ⟨r, h.symm⟩⟩
theorem areP_take {l : List Cl} {ks : List Int} (h : areP l ks = true) (n : Nat) : areP (l.take n) (ks.take n) = true := by
  unfold areP at *
  simp only [Bool.and_eq_true, decide_eq_true_eq] at *
  refine ⟨by simp [h.1], ?_⟩
  have := h.2
  clear h
  induction n generalizing l ks with
  | zero => simp [are2]
  | succ n ih =>
    cases l with
    | nil => simp [are2]
    | cons c l =>
      cases ks with
      | nil => simp [are2] at this
      | cons k ks =>
        have : (properP c k && are2 l ks) = true := this
        simp only [Bool.and_eq_true] at this
        show (properP c k && are2 (l.take n) (ks.take n)) = true
        rw [this.1, ih this.2]; rfl
/-- The key of a row is in the span of its first cells, and in no other one of as many cells. -/
theorem span_cells {n : Int} {ks : List Int} {l m : List Cl} (hk : ∀ k ∈ ks, kindP k = true) (hl : ∀ c ∈ l, CellOk c) (hm : ∀ c ∈ m, CellOk c) (h1 : areP l ks = true) (h2 : areP m ks = true) (j : Nat) :
    (by8 n.toNat :: encs (l.take j)).isPrefixOf (by8 n.toNat :: encs m) = decide (l.take j = m.take j) := by
  apply Bool.eq_iff_iff.2
  rw [isPrefix_iff, decide_eq_true_eq]
  constructor
  · rintro ⟨r, h⟩
    injection h with _ h
    have e : encs m = encs (m.take j) ++ encs (m.drop j) := by rw [← encs_app, List.take_append_drop]
    rw [e] at h
    exact encs_inj (ks.take j) _ _ _ _ (fun k hk' => hk k (List.mem_of_mem_take hk')) (fun c hc => hl c (List.mem_of_mem_take hc)) (fun c hc => hm c (List.mem_of_mem_take hc)) (areP_take h1 j) (areP_take h2 j) h.symm
  · intro h
    refine ⟨encs (m.drop j), ?_⟩
    have e : encs m = encs (m.take j) ++ encs (m.drop j) := by rw [← encs_app, List.take_append_drop]
    rw [h, List.cons_append, ← e]

end Go.Proofs.YtlmhioanjmhaiaaDoor

/-
  The seat's functions as terms over the engine's combinators (a program of ours printed it).
  Conditions: none. By an AI agent.
-/
set_option linter.unusedVariables false
namespace Go.Proofs.YtlmhioanjmhaiaaDoor
open Go Eng

/-! ticketline.ticketlinelaw40.RowsHolds -/

noncomputable def s_law_RowsHolds (mg : GT) (mc : CT) (ms : ST) (P : Program) (C : CallF) (L0 : Value → Value → Value → Value → Value → Value → Value → Value → AHeap → K → Res) (a0 : Value) (a1 : Value) (a2 : Value) (a3 : Value) (H : AHeap) (K0 : K) : Res :=
bothK (newv T.api_Table a0 H) fun t4 h1 =>
bareK (ldN 3 h1 t4) h1 fun t21 h2 =>
enterK C F.law_small [t21, a1] h2 fun t23 h3 =>
bareK (xun P .not t23) h3 fun t24 h4 =>
mg t24 false (fun o1 => bareK (ldN 3 h4 t4) h4 o1) h4 fun t26 h5 =>
mg t24 false (fun o2 => o2 a2 h5) h5 fun t27 h6 =>
mg t24 false (fun o3 => enterK C F.law_small [t26, t27] h6 o3) h6 fun t28 h7 =>
mg t24 false (fun o4 => bareK (xun P .not t28) h7 o4) h7 fun t29 h8 =>
pickK t24 (.bool true) t29 fun t30 =>
mg t30 false (fun o5 => bareK (ldN 3 h8 t4) h8 o5) h8 fun t32 h9 =>
mg t30 false (fun o6 => enterK C F.law_valid [t32] h9 o6) h9 fun t33 h10 =>
mg t30 false (fun o7 => bareK (xun P .not t33) h10 o7) h10 fun t34 h11 =>
pickK t30 (.bool true) t34 fun t35 =>
mc t35 (fun k8 => enterK C F.law_known [] h11 fun t36 h12 =>
k8 .ret [(8, t36)] h12) (fun k8 =>
k8 .normal [(1, a1), (2, a2), (3, a3), (4, t4)] h11) (seqK (fun tT h13 =>
bareK (ldN 3 h13 (get tT 4)) h13 fun t38 h14 =>
enterK C F.rows_Row [t38, (get tT 1)] h14 fun t40 h15 =>
bareK (xextract t40 0) h15 fun t41 h16 =>
bareK (xextract t40 1) h16 fun t42 h17 =>
bareK (xextract t40 2) h17 fun t43 h18 =>
bareK (ldN 3 h18 (get tT 4)) h18 fun t45 h19 =>
enterK C F.rows_Row [t45, (get tT 2)] h19 fun t47 h20 =>
bareK (xextract t47 0) h20 fun t48 h21 =>
bareK (xextract t47 1) h21 fun t49 h22 =>
bareK (xextract t47 2) h22 fun t50 h23 =>
bareK (xbin P .neq T.api_Errno (.tmp 51) (.const (.int .i64 0)) t43 (.int .i64 0)) h23 fun t52 h24 =>
mg t52 false (fun o9 => o9 t50 h24) h24 fun t54 h25 =>
mg t52 false (fun o10 => bareK (xbin P .neq T.api_Errno (.tmp 54) (.const (.int .i64 0)) t54 (.int .i64 0)) h25 o10) h25 fun t55 h26 =>
pickK t52 (.bool true) t55 fun t56 =>
mc t56 (fun k11 => enterK C F.law_known [] h26 fun t57 h27 =>
k11 .ret [(8, t57)] h27) (fun k11 =>
k11 .normal [(1, (get tT 1)), (2, (get tT 2)), (3, (get tT 3)), (4, (get tT 4)), (9, t41), (10, t42), (12, t48), (13, t49)] h26) (seqK (fun tT_1 h28 =>
bareK (lenS (get tT_1 1)) h28 fun t59 h29 =>
bareK (fad 1 (get tT_1 4)) h29 fun t60 h30 =>
bareK (ld1 h30 t60) h30 fun t61 h31 =>
bareK (lenS t61) h31 fun t62 h32 =>
bareK (fad 2 (get tT_1 4)) h32 fun t63 h33 =>
bareK (ld1 h33 t63) h33 fun t64 h34 =>
bareK (lenS t64) h34 fun t65 h35 =>
bareK (xbin P .add T.int (.tmp 62) (.tmp 65) t62 t65) h35 fun t66 h36 =>
bareK (xbin P .neq T.int (.tmp 59) (.tmp 66) t59 t66) h36 fun t67 h37 =>
mg t67 false (fun o12 => o12 (get tT_1 2) h37) h37 fun t69 h38 =>
mg t67 false (fun o13 => bareK (lenS t69) h38 o13) h38 fun t70 h39 =>
mg t67 false (fun o14 => o14 (get tT_1 1) h39) h39 fun t71 h40 =>
mg t67 false (fun o15 => bareK (lenS t71) h40 o15) h40 fun t72 h41 =>
mg t67 false (fun o16 => bareK (xbin P .neq T.int (.tmp 70) (.tmp 72) t70 t72) h41 o16) h41 fun t73 h42 =>
pickK t67 (.bool true) t73 fun t74 =>
mg t74 false (fun o17 => bareK (ldN 3 h42 (get tT_1 4)) h42 o17) h42 fun t76 h43 =>
mg t74 false (fun o18 => o18 (get tT_1 9) h43) h43 fun t77 h44 =>
mg t74 false (fun o19 => o19 (get tT_1 10) h44) h44 fun t78 h45 =>
mg t74 false (fun o20 => o20 (get tT_1 1) h45) h45 fun t79 h46 =>
mg t74 false (fun o21 => enterK C F.law_read [t76, t77, t78, t79, (.int .i64 0)] h46 o21) h46 fun t80 h47 =>
mg t74 false (fun o22 => bareK (xun P .not t80) h47 o22) h47 fun t81 h48 =>
pickK t74 (.bool true) t81 fun t82 =>
mg t82 false (fun o23 => bareK (ldN 3 h48 (get tT_1 4)) h48 o23) h48 fun t84 h49 =>
mg t82 false (fun o24 => o24 (get tT_1 12) h49) h49 fun t85 h50 =>
mg t82 false (fun o25 => o25 (get tT_1 13) h50) h50 fun t86 h51 =>
mg t82 false (fun o26 => o26 (get tT_1 2) h51) h51 fun t87 h52 =>
mg t82 false (fun o27 => enterK C F.law_read [t84, t85, t86, t87, (.int .i64 0)] h52 o27) h52 fun t88 h53 =>
mg t82 false (fun o28 => bareK (xun P .not t88) h53 o28) h53 fun t89 h54 =>
pickK t82 (.bool true) t89 fun t90 =>
mc t90 (fun k29 => k29 .ret [(8, (.bool false))] h54) (fun k29 =>
k29 .normal [(1, (get tT_1 1)), (2, (get tT_1 2)), (3, (get tT_1 3)), (4, (get tT_1 4)), (9, (get tT_1 9)), (12, (get tT_1 12))] h54) (seqK (fun tT_2 h55 =>
ms (fun k30 =>
L0 (get tT_2 1) (get tT_2 2) (get tT_2 3) (get tT_2 4) (get tT_2 9) (get tT_2 12) (.int .i64 0) (.int .i64 0) h55 (blkK [1, 2, 3, 4, 9, 12, 15] 0 k30)) (seqK (fun tT_3 h56 =>
bareK (xbin P .lss T.int (.tmp 111) (.const (.int .i64 0)) (get tT_3 15) (.int .i64 0)) h56 fun t112 h57 =>
bareK (xbin P .lss T.string (.tmp 113) (.tmp 114) (get tT_3 9) (get tT_3 12)) h57 fun t115 h58 =>
bareK (xbin P .neq T.bool (.tmp 112) (.tmp 115) t112 t115) h58 fun t116 h59 =>
mg t116 false (fun o31 => o31 (get tT_3 15) h59) h59 fun t118 h60 =>
mg t116 false (fun o32 => bareK (xbin P .gtr T.int (.tmp 118) (.const (.int .i64 0)) t118 (.int .i64 0)) h60 o32) h60 fun t119 h61 =>
mg t116 false (fun o33 => o33 (get tT_3 9) h61) h61 fun t120 h62 =>
mg t116 false (fun o34 => o34 (get tT_3 12) h62) h62 fun t121 h63 =>
mg t116 false (fun o35 => bareK (xbin P .gtr T.string (.tmp 120) (.tmp 121) t120 t121) h63 o35) h63 fun t122 h64 =>
mg t116 false (fun o36 => bareK (xbin P .neq T.bool (.tmp 119) (.tmp 122) t119 t122) h64 o36) h64 fun t123 h65 =>
pickK t116 (.bool true) t123 fun t124 =>
mc t124 (fun k37 => k37 .ret [(8, (.bool false))] h65) (fun k37 =>
k37 .normal [(1, (get tT_3 1)), (2, (get tT_3 2)), (3, (get tT_3 3)), (4, (get tT_3 4)), (9, (get tT_3 9)), (12, (get tT_3 12)), (15, (get tT_3 15))] h65) (seqK (fun tT_4 h66 =>
bareK (xbin P .neq T.int (.tmp 125) (.const (.int .i64 0)) (get tT_4 15) (.int .i64 0)) h66 fun t126 h67 =>
mg t126 true (fun o38 => o38 (get tT_4 9) h67) h67 fun t128 h68 =>
mg t126 true (fun o39 => bareK (lenT t128) h68 o39) h68 fun t129 h69 =>
mg t126 true (fun o40 => o40 (get tT_4 12) h69) h69 fun t130 h70 =>
mg t126 true (fun o41 => bareK (lenT t130) h70 o41) h70 fun t131 h71 =>
mg t126 true (fun o42 => bareK (xbin P .geq T.int (.tmp 129) (.tmp 131) t129 t131) h71 o42) h71 fun t132 h72 =>
mg t126 true (fun o43 => o43 t132 h72) h72 fun t133 h73 =>
mg t133 true (fun o44 => o44 (get tT_4 9) h73) h73 fun t134 h74 =>
mg t133 true (fun o45 => o45 (get tT_4 12) h74) h74 fun t135 h75 =>
mg t133 true (fun o46 => bareK (lenT t135) h75 o46) h75 fun t136 h76 =>
mg t133 true (fun o47 => bareK (slT t134 none (some t136)) h76 o47) h76 fun t137 h77 =>
mg t133 true (fun o48 => o48 (get tT_4 12) h77) h77 fun t138 h78 =>
mg t133 true (fun o49 => bareK (xbin P .eql T.string (.tmp 137) (.tmp 138) t137 t138) h78 o49) h78 fun t139 h79 =>
mg t126 true (fun o50 => pickK t133 t139 (.bool false) fun v => o50 v h79) h79 fun t140 h80 =>
mg t126 true (fun o51 => o51 t140 h80) h80 fun t141 h81 =>
mg t141 false (fun o52 => o52 (get tT_4 12) h81) h81 fun t142 h82 =>
mg t141 false (fun o53 => bareK (lenT t142) h82 o53) h82 fun t143 h83 =>
mg t141 false (fun o54 => o54 (get tT_4 9) h83) h83 fun t144 h84 =>
mg t141 false (fun o55 => bareK (lenT t144) h84 o55) h84 fun t145 h85 =>
mg t141 false (fun o56 => bareK (xbin P .geq T.int (.tmp 143) (.tmp 145) t143 t145) h85 o56) h85 fun t146 h86 =>
mg t141 false (fun o57 => o57 t146 h86) h86 fun t147 h87 =>
mg t147 true (fun o58 => o58 (get tT_4 12) h87) h87 fun t148 h88 =>
mg t147 true (fun o59 => o59 (get tT_4 9) h88) h88 fun t149 h89 =>
mg t147 true (fun o60 => bareK (lenT t149) h89 o60) h89 fun t150 h90 =>
mg t147 true (fun o61 => bareK (slT t148 none (some t150)) h90 o61) h90 fun t151 h91 =>
mg t147 true (fun o62 => o62 (get tT_4 9) h91) h91 fun t152 h92 =>
mg t147 true (fun o63 => bareK (xbin P .eql T.string (.tmp 151) (.tmp 152) t151 t152) h92 o63) h92 fun t153 h93 =>
mg t141 false (fun o64 => pickK t147 t153 (.bool false) fun v => o64 v h93) h93 fun t154 h94 =>
mg t126 true (fun o65 => pickK t141 (.bool true) t154 fun v => o65 v h94) h94 fun t155 h95 =>
pickK t126 t155 (.bool false) fun t156 =>
mc t156 (fun k66 => k66 .ret [(8, (.bool false))] h95) (fun k66 =>
k66 .normal [(1, (get tT_4 1)), (2, (get tT_4 2)), (3, (get tT_4 3)), (4, (get tT_4 4)), (9, (get tT_4 9)), (12, (get tT_4 12))] h95) (seqK (fun tT_5 h96 =>
bothK (xconv P T.uint8 T.int (get tT_5 3) h96) fun t158 h97 =>
bareK (fad 1 (get tT_5 4)) h97 fun t159 h98 =>
bareK (ld1 h98 t159) h98 fun t160 h99 =>
bareK (lenS t160) h99 fun t161 h100 =>
bareK (xbin P .add T.int (.tmp 161) (.const (.int .i64 1)) t161 (.int .i64 1)) h100 fun t162 h101 =>
bareK (xbin P .rem T.int (.tmp 158) (.tmp 162) t158 t162) h101 fun t163 h102 =>
bareK (ldN 3 h102 (get tT_5 4)) h102 fun t165 h103 =>
bareK (slS T.api_Cell 5 (get tT_5 1) none (some t163) none h103) h103 fun t168 h104 =>
enterK C F.rows_Span [t165, t168] h104 fun t169 h105 =>
bareK (xextract t169 0) h105 fun t170 h106 =>
bareK (xextract t169 1) h106 fun t171 h107 =>
bareK (xextract t169 2) h107 fun t172 h108 =>
checkK true <|
bareK (xbin P .neq T.api_Errno (.tmp 173) (.const (.int .i64 0)) t172 (.int .i64 0)) h108 fun t174 h109 =>
mg t174 false (fun o67 => o67 (get tT_5 9) h109) h109 fun t176 h110 =>
mg t174 false (fun o68 => o68 t170 h110) h110 fun t177 h111 =>
mg t174 false (fun o69 => bareK (xbin P .lss T.string (.tmp 176) (.tmp 177) t176 t177) h111 o69) h111 fun t178 h112 =>
pickK t174 (.bool true) t178 fun t179 =>
mg t179 false (fun o70 => o70 t171 h112) h112 fun t181 h113 =>
mg t179 false (fun o71 => bareK (xbin P .neq T.string (.tmp 181) (.const (.string (mk []))) t181 (.string (mk []))) h113 o71) h113 fun t182 h114 =>
mg t179 false (fun o72 => o72 t182 h114) h114 fun t183 h115 =>
mg t183 true (fun o73 => o73 (get tT_5 9) h115) h115 fun t184 h116 =>
mg t183 true (fun o74 => o74 t171 h116) h116 fun t185 h117 =>
mg t183 true (fun o75 => bareK (xbin P .geq T.string (.tmp 184) (.tmp 185) t184 t185) h117 o75) h117 fun t186 h118 =>
mg t179 false (fun o76 => pickK t183 t186 (.bool false) fun v => o76 v h118) h118 fun t187 h119 =>
pickK t179 (.bool true) t187 fun t188 =>
mc t188 (fun k77 => k77 .ret [(8, (.bool false))] h119) (fun k77 =>
k77 .normal [(1, (get tT_5 1)), (2, (get tT_5 2)), (12, (get tT_5 12)), (17, t163), (18, t170), (19, t171)] h119) (seqK (fun tT_6 h120 =>
bareK (xbin P .geq T.string (.tmp 189) (.tmp 190) (get tT_6 12) (get tT_6 18)) h120 fun t191 h121 =>
mg t191 true (fun o78 => o78 (get tT_6 19) h121) h121 fun t193 h122 =>
mg t191 true (fun o79 => bareK (xbin P .eql T.string (.tmp 193) (.const (.string (mk []))) t193 (.string (mk []))) h122 o79) h122 fun t194 h123 =>
mg t191 true (fun o80 => o80 t194 h123) h123 fun t195 h124 =>
mg t195 false (fun o81 => o81 (get tT_6 12) h124) h124 fun t196 h125 =>
mg t195 false (fun o82 => o82 (get tT_6 19) h125) h125 fun t197 h126 =>
mg t195 false (fun o83 => bareK (xbin P .lss T.string (.tmp 196) (.tmp 197) t196 t197) h126 o83) h126 fun t198 h127 =>
mg t191 true (fun o84 => pickK t195 (.bool true) t198 fun v => o84 v h127) h127 fun t199 h128 =>
pickK t191 t199 (.bool false) fun t200 =>
bareK (slS T.api_Cell 5 (get tT_6 1) none (some (get tT_6 17)) none h128) h128 fun t204 h129 =>
bareK (slS T.api_Cell 5 (get tT_6 2) none (some (get tT_6 17)) none h129) h129 fun t207 h130 =>
enterK C F.law_same [t204, t207] h130 fun t208 h131 =>
bareK (xbin P .eql T.bool (.tmp 201) (.tmp 208) t200 t208) h131 fun t209 h132 =>
mg t209 true (fun o85 => enterK C F.law_known [] h132 o85) h132 fun t211 h133 =>
pickK t209 t211 (.bool false) fun t212 =>
checkK (okV (some true) none h130 h131 h128 h128 && true) <|
K0 .ret [(8, t212)] h133) K0)) K0)) K0)) K0)) K0)) K0)) K0)

noncomputable def s_law_RowsHolds_b0 (mg : GT) (mc : CT) (ms : ST) (P : Program) (C : CallF) (L0 : Value → Value → Value → Value → Value → Value → Value → Value → AHeap → K → Res) (v1 : Value) (v2 : Value) (v3 : Value) (v4 : Value) (v9 : Value) (v12 : Value) (v15 : Value) (v16 : Value) (H : AHeap) (k : K) : Res :=
bareK (fad 1 v4) H fun t92 h56 =>
bareK (ld1 h56 t92) h56 fun t93 h57 =>
bareK (lenS t93) h57 fun t94 h58 =>
bareK (xbin P .lss T.int (.tmp 91) (.tmp 94) v16 t94) h58 fun t95 h59 =>
mg t95 true (fun o31 => o31 v15 h59) h59 fun t97 h60 =>
mg t95 true (fun o32 => bareK (xbin P .eql T.int (.tmp 97) (.const (.int .i64 0)) t97 (.int .i64 0)) h60 o32) h60 fun t98 h61 =>
pickK t95 t98 (.bool false) fun t99 =>
mc t99 (fun k33 => k33 .normal [(1, v1), (2, v2), (3, v3), (4, v4), (9, v9), (12, v12), (16, v16)] h61) (fun k33 =>
k33 (.exit 0) [(99, t99), (98, t98), (97, t97), (96, t95), (95, t95), (94, t94), (93, t93), (92, t92), (91, v16), (1, v1), (2, v2), (3, v3), (4, v4), (9, v9), (12, v12), (15, v15), (16, v16)] h61) (seqK (fun tT h62 =>
ms (fun k34 =>
bareK (ixS 5 (get tT 1) (get tT 16)) h62 fun t104 h63 =>
bareK (ldN 5 h63 t104) h63 fun t105 h64 =>
bareK (ixS 5 (get tT 2) (get tT 16)) h64 fun t108 h65 =>
bareK (ldN 5 h65 t108) h65 fun t109 h66 =>
enterK C F.rows_Compare [t105, t109] h66 fun t110 h67 =>
checkK true <|
k34 .normal [(1, (get tT 1)), (2, (get tT 2)), (3, (get tT 3)), (4, (get tT 4)), (9, (get tT 9)), (12, (get tT 12)), (15, t110), (16, (get tT 16))] h67) (seqK (fun tT_1 h68 =>
bareK (xbin P .add T.int (.tmp 100) (.const (.int .i64 1)) (get tT_1 16) (.int .i64 1)) h68 fun t101 h69 =>
k .normal [(1, (get tT_1 1)), (2, (get tT_1 2)), (3, (get tT_1 3)), (4, (get tT_1 4)), (9, (get tT_1 9)), (12, (get tT_1 12)), (15, (get tT_1 15)), (16, t101)] h69) (afterK [1, 2, 3, 4, 9, 12, 15, 16] k))) (afterK [1, 2, 3, 4, 9, 12, 15, 16] k))

theorem s_law_RowsHolds_eq (M : CombL) (C : CallF) (LP : LoopH) (a0 : Value) (a1 : Value) (a2 : Value) (a3 : Value) (H : AHeap) : dBodyL M Tryd.prog hints C LP F.law_RowsHolds [a0, a1, a2, a3] H = s_law_RowsHolds M.b.g M.c M.s Tryd.prog C (fun v1 v2 v3 v4 v9 v12 v15 v16 H k => loopL M Tryd.prog hints C LP F.law_RowsHolds 0 [(1, v1), (2, v2), (3, v3), (4, v4), (9, v9), (12, v12), (15, v15), (16, v16)] H k) a0 a1 a2 a3 H (endK Tryd.prog [.tmp 8]) := by kernel_rfl

theorem s_law_RowsHolds_b0_eq (M : CombL) (C : CallF) (LP : LoopH) (v1 : Value) (v2 : Value) (v3 : Value) (v4 : Value) (v9 : Value) (v12 : Value) (v15 : Value) (v16 : Value) (H : AHeap) (k : K) : bodyL M Tryd.prog hints C LP F.law_RowsHolds 0 [(1, v1), (2, v2), (3, v3), (4, v4), (9, v9), (12, v12), (15, v15), (16, v16)] H (afterK [1, 2, 3, 4, 9, 12, 15, 16] k) = s_law_RowsHolds_b0 M.b.g M.c M.s Tryd.prog C (fun v1 v2 v3 v4 v9 v12 v15 v16 H k => loopL M Tryd.prog hints C LP F.law_RowsHolds 0 [(1, v1), (2, v2), (3, v3), (4, v4), (9, v9), (12, v12), (15, v15), (16, v16)] H k) v1 v2 v3 v4 v9 v12 v15 v16 H k := by kernel_rfl

end Go.Proofs.YtlmhioanjmhaiaaDoor

/-
  The equations of the seat's functions over calls in the limit (a program of ours printed it).
  Conditions: none. By an AI agent.
-/
set_option linter.unusedVariables false
namespace Go.Proofs.YtlmhioanjmhaiaaDoor
open Go Eng



noncomputable def l_law_RowsHolds_0 (v1 : Value) (v2 : Value) (v3 : Value) (v4 : Value) (v9 : Value) (v12 : Value) (v15 : Value) (v16 : Value) (H : AHeap) (k : K) : Res := loopL stdL Tryd.prog hints CC limLP F.law_RowsHolds 0 [(1, v1), (2, v2), (3, v3), (4, v4), (9, v9), (12, v12), (15, v15), (16, v16)] H k
theorem r_law_RowsHolds_0 (v1 : Value) (v2 : Value) (v3 : Value) (v4 : Value) (v9 : Value) (v12 : Value) (v15 : Value) (v16 : Value) (H : AHeap) (k : K) : l_law_RowsHolds_0 v1 v2 v3 v4 v9 v12 v15 v16 H k = s_law_RowsHolds_b0 guardK condL shareL Tryd.prog CC l_law_RowsHolds_0 v1 v2 v3 v4 v9 v12 v15 v16 H (seqK (fun T H => l_law_RowsHolds_0 (get T 1) (get T 2) (get T 3) (get T 4) (get T 9) (get T 12) (get T 15) (get T 16) H k) k) := ((loopL_next (by kernel_rfl) rfl H k).trans (s_law_RowsHolds_b0_eq stdL CC limLP v1 v2 v3 v4 v9 v12 v15 v16 H _)).trans (by kernel_rfl)
theorem d_law_RowsHolds (a0 : Value) (a1 : Value) (a2 : Value) (a3 : Value) (H : AHeap) {r : Value × AHeap} (h : s_law_RowsHolds guardK condL shareL Tryd.prog CC l_law_RowsHolds_0 a0 a1 a2 a3 H (endK Tryd.prog [.tmp 8]) = some r) : CC F.law_RowsHolds [a0, a1, a2, a3] H = some (tidy H r) := D_body (by kernel_rfl) ((s_law_RowsHolds_eq stdL CC limLP a0 a1 a2 a3 H).trans (Eq.trans (show s_law_RowsHolds stdL.b.g stdL.c stdL.s Tryd.prog CC (fun v1 v2 v3 v4 v9 v12 v15 v16 H k => loopL stdL Tryd.prog hints CC limLP F.law_RowsHolds 0 [(1, v1), (2, v2), (3, v3), (4, v4), (9, v9), (12, v12), (15, v15), (16, v16)] H k) a0 a1 a2 a3 H (endK Tryd.prog [.tmp 8]) = s_law_RowsHolds guardK condL shareL Tryd.prog CC l_law_RowsHolds_0 a0 a1 a2 a3 H (endK Tryd.prog [.tmp 8]) by kernel_rfl) h))

end Go.Proofs.YtlmhioanjmhaiaaDoor

/-
  Chapter 40: RowsHolds.
  Conditions: none. By an AI agent.
-/
set_option maxRecDepth 10000
set_option linter.unusedSimpArgs false
set_option linter.unusedVariables false
namespace Go.Proofs.YtlmhioanjmhaiaaDoor
open Go Eng

theorem l_Holds (l m : List Cl) (w u p3 v9 v12 : Value) (kv rv : Value) (n : Int) (nk bt : Nat) (H : AHeap) (hw : Rd ECl H w l) (hu : Rd ECl H u m) (hf : H.f bt = .cells [.int .i64 n, kv, rv] T.api_Table true) (lk : lenS kv = some (.int .i64 (nk : Int))) (hl : nk ≤ l.length) (hm : nk ≤ m.length) (h8 : nk ≤ 8) :
    ∀ (x y : List Cl) (i : Nat), (l.take nk).drop i = x → (m.take nk).drop i = y → i ≤ nk →
    ∀ K : K, l_law_RowsHolds_0 w u p3 (.pointer (some ⟨bt, 0, none⟩)) v9 v12 (.int .i64 0) (.int .i64 (i : Int)) H (blkK [1, 2, 3, 4, 9, 12, 15] 0 K) = K .normal [(1, w), (2, u), (3, p3), (4, .pointer (some ⟨bt, 0, none⟩)), (9, v9), (12, v12), (15, .int .i64 (cmpL x y))] H
  | [], y, i, hx, hy, hi, K => by
    have h : (l.take nk).length ≤ i := List.drop_eq_nil_iff.1 hx
    have hlt : ¬ (i : Int) < (nk : Int) := by simp at h; omega
    rw [r_law_RowsHolds_0]
    simp (disch := first | with_reducible rfl | assumption | omega | rfl | (simp only [go_sem]; first | done | omega)) only [go_sem, ↓reduceIte, reduceCtorEq, Nat.reduceEqDiff, Nat.reduceAdd, Nat.reduceSub, Nat.reduceMul, Nat.reduceDiv, Nat.reduceMod, Nat.reduceLeDiff, Nat.reduceLT, Nat.reduceBEq, Int.reduceEq, Int.reduceBEq, Int.reduceBNe, Int.reduceLT, Int.reduceLE, Int.reduceAdd, Int.reduceSub, Int.reduceNeg, Int.reduceToNat, Int.reducePow, Nat.reducePow, Int.reduceMul, Int.reduceDiv, ↓s_law_RowsHolds_b0, hf, lk, hlt]
    rfl
  | a :: x, [], i, hx, hy, hi, K => by
    obtain ⟨h, _⟩ := drop_cons hx
    have h2 : (m.take nk).length ≤ i := List.drop_eq_nil_iff.1 hy
    simp at h h2
    omega
  | a :: x, b :: y, i, hx, hy, hi, K => by
    obtain ⟨h, hxa, hx'⟩ := drop_cons hx
    obtain ⟨h2, hyb, hy'⟩ := drop_cons hy
    have h' : i < nk ∧ i < l.length := by simp at h; omega
    have h2' : i < m.length := by simp at h2; omega
    have hlt : (i : Int) < (nk : Int) := by omega
    obtain ⟨b1, o1, i1, c1, _⟩ := rd_cell hw h'.2
    obtain ⟨b2, o2, i2, c2, _⟩ := rd_cell hu h2'
    have ea : l[i] = a := by rw [← hxa]; simp
    have eb : m[i] = b := by rw [← hyb]; simp
    rw [ea] at c1
    rw [eb] at c2
    have mc := q_Compare a b H
    have ih := l_Holds l m w u p3 v9 v12 kv rv n nk bt H hw hu hf lk hl hm h8 x y (i + 1) hx' hy' (by omega) K
    rw [Int.natCast_add] at ih
    rw [show cmpL (a :: x) (b :: y) = if cmpC a b = 0 then cmpL x y else cmpC a b from rfl]
    obtain ⟨z, hz⟩ : ∃ z, cmpC a b = z := ⟨_, rfl⟩
    rw [hz] at mc ⊢
    unfold Cl.l at c1 c2 mc
    by_cases h0 : z = 0
    · subst h0
      rw [if_pos rfl, r_law_RowsHolds_0]
      simp (disch := first | with_reducible rfl | assumption | omega | rfl | (simp only [go_sem]; first | done | omega)) only [go_sem, ↓reduceIte, reduceCtorEq, Nat.reduceEqDiff, Nat.reduceAdd, Nat.reduceSub, Nat.reduceMul, Nat.reduceDiv, Nat.reduceMod, Nat.reduceLeDiff, Nat.reduceLT, Nat.reduceBEq, Int.reduceEq, Int.reduceBEq, Int.reduceBNe, Int.reduceLT, Int.reduceLE, Int.reduceAdd, Int.reduceSub, Int.reduceNeg, Int.reduceToNat, Int.reducePow, Nat.reducePow, Int.reduceMul, Int.reduceDiv, ↓s_law_RowsHolds_b0, hf, lk, hlt, i1, c1, i2, c2, ↓enterK_eq mc, enterK_eq mc]
      exact ih
    · rw [if_neg h0, r_law_RowsHolds_0]
      simp (disch := first | with_reducible rfl | assumption | omega | rfl | (simp only [go_sem]; first | done | omega)) only [go_sem, ↓reduceIte, reduceCtorEq, Nat.reduceEqDiff, Nat.reduceAdd, Nat.reduceSub, Nat.reduceMul, Nat.reduceDiv, Nat.reduceMod, Nat.reduceLeDiff, Nat.reduceLT, Nat.reduceBEq, Int.reduceEq, Int.reduceBEq, Int.reduceBNe, Int.reduceLT, Int.reduceLE, Int.reduceAdd, Int.reduceSub, Int.reduceNeg, Int.reduceToNat, Int.reducePow, Nat.reducePow, Int.reduceMul, Int.reduceDiv, ↓s_law_RowsHolds_b0, hf, lk, hlt, i1, c1, i2, c2, ↓enterK_eq mc, enterK_eq mc]
      by_cases hq : ((i : Int) + 1) < (nk : Int)
      · rw [r_law_RowsHolds_0]
        simp (disch := first | with_reducible rfl | assumption | omega | rfl | (simp only [go_sem]; first | done | omega)) only [go_sem, ↓reduceIte, reduceCtorEq, Nat.reduceEqDiff, Nat.reduceAdd, Nat.reduceSub, Nat.reduceMul, Nat.reduceDiv, Nat.reduceMod, Nat.reduceLeDiff, Nat.reduceLT, Nat.reduceBEq, Int.reduceEq, Int.reduceBEq, Int.reduceBNe, Int.reduceLT, Int.reduceLE, Int.reduceAdd, Int.reduceSub, Int.reduceNeg, Int.reduceToNat, Int.reducePow, Nat.reducePow, Int.reduceMul, Int.reduceDiv, ↓s_law_RowsHolds_b0, hf, lk, hq, h0]
      · rw [r_law_RowsHolds_0]
        simp (disch := first | with_reducible rfl | assumption | omega | rfl | (simp only [go_sem]; first | done | omega)) only [go_sem, ↓reduceIte, reduceCtorEq, Nat.reduceEqDiff, Nat.reduceAdd, Nat.reduceSub, Nat.reduceMul, Nat.reduceDiv, Nat.reduceMod, Nat.reduceLeDiff, Nat.reduceLT, Nat.reduceBEq, Int.reduceEq, Int.reduceBEq, Int.reduceBNe, Int.reduceLT, Int.reduceLE, Int.reduceAdd, Int.reduceSub, Int.reduceNeg, Int.reduceToNat, Int.reducePow, Nat.reducePow, Int.reduceMul, Int.reduceDiv, ↓s_law_RowsHolds_b0, hf, lk, hq]

/-- How two keys lie, and what the order of their cells says. -/
structure KeyF (K P : List UInt8) (c : Int) (p1 : Prop) (b1 : Bool) (p2 : Prop) (b2 : Bool) (p3 p4 p5 p6 p7 : Prop) (y1 y2 : Option Value) : Prop where
  a1 : (c < 0) = p1
  a2 : Op.bytesLess K P = b1
  a3 : (0 < c) = p2
  a4 : (K == P) = b2
  a5 : (c = 0) = p3
  a6 : ((P.length : Int) ≤ (K.length : Int)) = p4
  a7 : (K.take P.length = P) = p5
  a8 : ((K.length : Int) ≤ (P.length : Int)) = p6
  a9 : (P.take K.length = K) = p7
  t1 : slT (.string (mk K)) none (some (.int .i64 (P.length : Int))) = y1
  t2 : slT (.string (mk P)) none (some (.int .i64 (K.length : Int))) = y2
theorem keyF_of {K P : List UInt8} {c : Int} {p1 p2 : Prop} {b1 : Bool} (h1 : (c < 0) = p1) (h2 : Op.bytesLess K P = b1) (h3 : (0 < c) = p2) (hne : K ≠ P) (hc : (c = 0) = False) (d1 : (K.take P.length = P) = False) (d2 : (P.take K.length = K) = False) :
    KeyF K P c p1 b1 p2 false False True False True False (some (.string (mk (K.take P.length)))) (some (.string (mk (P.take K.length)))) ∨
    (∃ y1, KeyF K P c p1 b1 p2 false False False False True False y1 (some (.string (mk (P.take K.length))))) ∨
    (∃ y2, KeyF K P c p1 b1 p2 false False True False False False (some (.string (mk (K.take P.length)))) y2) := by
  have hb : (K == P) = false := by rw [beq_eq_false_iff_ne]; exact hne
  have s1 : P.length ≤ K.length → slT (.string (mk K)) none (some (.int .i64 (P.length : Int))) = some (.string (mk (K.take P.length))) := fun h => by
    have := slT_hi (s := mk K) (q := .i64) (j := P.length) (by rw [bl_mk]; exact h)
    rwa [bl_mk] at this
  have s2 : K.length ≤ P.length → slT (.string (mk P)) none (some (.int .i64 (K.length : Int))) = some (.string (mk (P.take K.length))) := fun h => by
    have := slT_hi (s := mk P) (q := .i64) (j := K.length) (by rw [bl_mk]; exact h)
    rwa [bl_mk] at this
  by_cases x1 : P.length ≤ K.length
  · by_cases x2 : K.length ≤ P.length
    · exact .inl ⟨h1, h2, h3, hb, hc, eq_true (by omega), d1, eq_true (by omega), d2, s1 x1, s2 x2⟩
    · exact .inr (.inr ⟨_, h1, h2, h3, hb, hc, eq_true (by omega), d1, eq_false (by omega), d2, s1 x1, rfl⟩)
  · exact .inr (.inl ⟨_, h1, h2, h3, hb, hc, eq_false (by omega), d1, eq_true (by omega), d2, rfl, s2 (by omega)⟩)
theorem keyF {K P : List UInt8} {c : Int} (h : (c < 0 ∧ Dif K P) ∨ (c = 0 ∧ K = P) ∨ (0 < c ∧ Dif P K)) :
    (KeyF K P c True true False false False True False True False (some (.string (mk (K.take P.length)))) (some (.string (mk (P.take K.length)))) ∨
    (∃ y1, KeyF K P c True true False false False False False True False y1 (some (.string (mk (P.take K.length))))) ∨
    (∃ y2, KeyF K P c True true False false False True False False False (some (.string (mk (K.take P.length)))) y2)) ∨
    (∃ y1 y2, KeyF K P c False false False true True True True True True y1 y2) ∨
    (KeyF K P c False false True false False True False True False (some (.string (mk (K.take P.length)))) (some (.string (mk (P.take K.length)))) ∨
    (∃ y1, KeyF K P c False false True false False False False True False y1 (some (.string (mk (P.take K.length))))) ∨
    (∃ y2, KeyF K P c False false True false False True False False False (some (.string (mk (K.take P.length)))) y2)) := by
  rcases h with ⟨h, d⟩ | ⟨h, rfl⟩ | ⟨h, d⟩
  · exact .inl (keyF_of (eq_true h) d.less.1 (eq_false (by omega)) d.ne (eq_false (by omega)) (eq_false (d.take _)) (eq_false (d.take' _)))
  · exact .inr (.inl ⟨_, _, eq_false (by omega), less_irr _, eq_false (by omega), by simp, eq_true h, eq_true (Int.le_refl _), eq_true (List.take_length ..), eq_true (Int.le_refl _), eq_true (List.take_length ..), rfl, rfl⟩)
  · exact .inr (.inr (keyF_of (eq_false (by omega)) d.less.2 (eq_true h) (fun e => d.ne e.symm) (eq_false (by omega)) (eq_false (d.take' _)) (eq_false (d.take _))))

/-- How two keys lie to a span from A to B. -/
structure SpF (K P A B : List UInt8) (e : Bool) (q1 : Prop) (b3 b4 b5 e' : Bool) : Prop where
  g1 : Op.bytesLess K A = false
  g2 : (B = []) = q1
  g3 : Op.bytesLess K B = b5
  g4 : Op.bytesLess P A = b3
  g5 : Op.bytesLess P B = b4
  g6 : e = e'
theorem spF {K P A : List UInt8} {e : Bool} (h1 : A.isPrefixOf K = true) (h2 : A.isPrefixOf P = e) :
    (∃ b4 b5, SpF K P A (bump A) e True true b4 b5 false) ∨ (∃ b4 b5, SpF K P A (bump A) e True false b4 b5 true) ∨
    (∃ b4, SpF K P A (bump A) e False true b4 true false) ∨ SpF K P A (bump A) e False false true true true ∨ SpF K P A (bump A) e False false false true false := by
  obtain ⟨k1, k2⟩ := (span_in A K).2 h1
  have hp := span_in A P
  rw [h2] at hp
  by_cases hB : bump A = []
  · cases hb : Op.bytesLess P A with
    | true =>
      refine .inl ⟨_, _, k1, eq_true hB, rfl, hb, rfl, ?_⟩
      rw [hb] at hp
      cases e with
      | false => rfl
      | true => have := (hp.2 rfl).1; cases this
    | false => exact .inr (.inl ⟨_, _, k1, eq_true hB, rfl, hb, rfl, hp.1 ⟨hb, .inl hB⟩⟩)
  · have k2 := k2.resolve_left hB
    cases hb : Op.bytesLess P A with
    | true =>
      refine .inr (.inr (.inl ⟨_, k1, eq_false hB, k2, hb, rfl, ?_⟩))
      rw [hb] at hp
      cases e with
      | false => rfl
      | true => have := (hp.2 rfl).1; cases this
    | false =>
      cases hc : Op.bytesLess P (bump A) with
      | true => exact .inr (.inr (.inr (.inl ⟨k1, eq_false hB, k2, hb, hc, hp.1 ⟨hb, .inr hc⟩⟩)))
      | false =>
        refine .inr (.inr (.inr (.inr ⟨k1, eq_false hB, k2, hb, hc, ?_⟩)))
        cases e with
        | false => rfl
        | true =>
          have := (hp.2 rfl).2
          rcases this with h | h
          · exact absurd h hB
          · rw [hc] at h; cases h

set_option maxHeartbeats 16000000 in
theorem q_RowsHolds (n : Int) (kv rv : Value) (kl rl : List Int) (l m : List Cl) (w u : Value) (many : Int) (H : AHeap) (ok : OkH H) (hk : KR H kv kl) (hr : KR H rv rl) (hw : CR H w l) (hu : CR H u m) (hn : ∀ c ∈ l, NumOk c) (hnm : ∀ c ∈ m, NumOk c) (ha0 : 0 ≤ many ∧ many < 256) :
    ∃ H', CC F.law_RowsHolds [tbV n kv rv, w, u, .int .u8 many] H = some (.bool true, H') := by
  obtain ⟨H1, hH1⟩ : ∃ H1, H.push (.cells [.int .i64 n, kv, rv] T.api_Table true) = H1 := ⟨_, rfl⟩
  have s1 : Still H H1 := by rw [← hH1]; exact (Fr.refl H).push _
  have f1 : H1.f H.n = .cells [.int .i64 n, kv, rv] T.api_Table true := by rw [← hH1]; exact push_f_eq rfl
  have hk1 := hk.still s1
  have hr1 := hr.still s1
  have hw1 := hw.still s1
  have hu1 := hu.still s1
  have ok1 := s1.ok ok
  have sm := q_small n kv rv kl.length rl.length l w H1 hk.1.lenS hr.1.lenS hk.one hr.one hw1.1
  have sm2 := q_small n kv rv kl.length rl.length m u H1 hk.1.lenS hr.1.lenS hk.one hr.one hu1.1
  have lk := hk.1.lenS
  have lr := hr.1.lenS
  have lw := hw.1.lenS
  have lu := hu.1.lenS
  cases h0 : smallP kl.length rl.length l with
  | false =>
    rw [h0] at sm
    refine any_of (H1 := H1) (d_law_RowsHolds _ _ _ _ H ?_)
    simp (disch := first | with_reducible rfl | assumption | omega | rfl | (simp only [go_sem]; first | done | omega)) only [go_sem, ↓reduceIte, reduceCtorEq, Nat.reduceEqDiff, Nat.reduceAdd, Nat.reduceSub, Nat.reduceMul, Nat.reduceDiv, Nat.reduceMod, Nat.reduceLeDiff, Nat.reduceLT, Nat.reduceBEq, Int.reduceEq, Int.reduceBEq, Int.reduceBNe, Int.reduceLT, Int.reduceLE, Int.reduceAdd, Int.reduceSub, Int.reduceNeg, Int.reduceToNat, Int.reducePow, Nat.reducePow, Int.reduceMul, Int.reduceDiv, ↓s_law_RowsHolds, hH1, f1, ↓enterK_eq sm, enterK_eq sm]
  | true =>
  rw [h0] at sm
  obtain ⟨p1, p2, p3, p4⟩ := smallP_ok h0
  cases h0' : smallP kl.length rl.length m with
  | false =>
    rw [h0'] at sm2
    refine any_of (H1 := H1) (d_law_RowsHolds _ _ _ _ H ?_)
    simp (disch := first | with_reducible rfl | assumption | omega | rfl | (simp only [go_sem]; first | done | omega)) only [go_sem, ↓reduceIte, reduceCtorEq, Nat.reduceEqDiff, Nat.reduceAdd, Nat.reduceSub, Nat.reduceMul, Nat.reduceDiv, Nat.reduceMod, Nat.reduceLeDiff, Nat.reduceLT, Nat.reduceBEq, Int.reduceEq, Int.reduceBEq, Int.reduceBNe, Int.reduceLT, Int.reduceLE, Int.reduceAdd, Int.reduceSub, Int.reduceNeg, Int.reduceToNat, Int.reducePow, Nat.reducePow, Int.reduceMul, Int.reduceDiv, ↓s_law_RowsHolds, hH1, f1, ↓enterK_eq sm, enterK_eq sm, ↓enterK_eq sm2, enterK_eq sm2]
  | true =>
  rw [h0'] at sm2
  obtain ⟨_, _, p3', p4'⟩ := smallP_ok h0'
  have hc : ∀ c ∈ l, CellOk c := fun c hc => ⟨(hn c hc).1, (hn c hc).2, by have := p4 c hc; omega⟩
  have hcm : ∀ c ∈ m, CellOk c := fun c hc => ⟨(hnm c hc).1, (hnm c hc).2, by have := p4' c hc; omega⟩
  have m1 := q_valid n kv rv kl rl H1 hk1 hr1
  cases hv : validP n kl rl with
  | false =>
    rw [hv] at m1
    refine any_of (H1 := H1) (d_law_RowsHolds _ _ _ _ H ?_)
    simp (disch := first | with_reducible rfl | assumption | omega | rfl | (simp only [go_sem]; first | done | omega)) only [go_sem, ↓reduceIte, reduceCtorEq, Nat.reduceEqDiff, Nat.reduceAdd, Nat.reduceSub, Nat.reduceMul, Nat.reduceDiv, Nat.reduceMod, Nat.reduceLeDiff, Nat.reduceLT, Nat.reduceBEq, Int.reduceEq, Int.reduceBEq, Int.reduceBNe, Int.reduceLT, Int.reduceLE, Int.reduceAdd, Int.reduceSub, Int.reduceNeg, Int.reduceToNat, Int.reducePow, Nat.reducePow, Int.reduceMul, Int.reduceDiv, ↓s_law_RowsHolds, hH1, f1, ↓enterK_eq sm, enterK_eq sm, ↓enterK_eq sm2, enterK_eq sm2, ↓enterK_eq m1, enterK_eq m1]
  | true =>
  rw [hv] at m1
  have hvn := validP_n hv
  obtain ⟨hkk, hrk, hk1l⟩ := okk hv
  have ml := q_Row' n kv rv kl rl l w H1 ok1 hk1 hr1 hw1 (by omega) hc
  have mm := q_Row' n kv rv kl rl m u H1 ok1 hk1 hr1 hu1 (by omega) hcm
  obtain ⟨⟨K, V, e⟩, hrow⟩ : ∃ y, rowR n kl rl l = y := ⟨_, rfl⟩
  obtain ⟨⟨P, Q, f⟩, hrow2⟩ : ∃ y, rowR n kl rl m = y := ⟨_, rfl⟩
  rw [hrow] at ml
  rw [hrow2] at mm
  dsimp only at ml mm
  refine (Classical.em (e = 0)).elim (fun he => ?_) fun he => ?_
  rotate_left
  · refine any_of (H1 := H1) (d_law_RowsHolds _ _ _ _ H ?_)
    simp (disch := first | with_reducible rfl | assumption | omega | rfl | (simp only [go_sem]; first | done | omega)) only [go_sem, ↓reduceIte, reduceCtorEq, Nat.reduceEqDiff, Nat.reduceAdd, Nat.reduceSub, Nat.reduceMul, Nat.reduceDiv, Nat.reduceMod, Nat.reduceLeDiff, Nat.reduceLT, Nat.reduceBEq, Int.reduceEq, Int.reduceBEq, Int.reduceBNe, Int.reduceLT, Int.reduceLE, Int.reduceAdd, Int.reduceSub, Int.reduceNeg, Int.reduceToNat, Int.reducePow, Nat.reducePow, Int.reduceMul, Int.reduceDiv, ↓s_law_RowsHolds, hH1, f1, ↓enterK_eq sm, enterK_eq sm, ↓enterK_eq sm2, enterK_eq sm2, ↓enterK_eq m1, enterK_eq m1, ↓enterK_eq ml, enterK_eq ml, ↓enterK_eq mm, enterK_eq mm, he]
  subst he
  refine (Classical.em (f = 0)).elim (fun hf => ?_) fun hf => ?_
  rotate_left
  · refine any_of (H1 := H1) (d_law_RowsHolds _ _ _ _ H ?_)
    simp (disch := first | with_reducible rfl | assumption | omega | rfl | (simp only [go_sem]; first | done | omega)) only [go_sem, ↓reduceIte, reduceCtorEq, Nat.reduceEqDiff, Nat.reduceAdd, Nat.reduceSub, Nat.reduceMul, Nat.reduceDiv, Nat.reduceMod, Nat.reduceLeDiff, Nat.reduceLT, Nat.reduceBEq, Int.reduceEq, Int.reduceBEq, Int.reduceBNe, Int.reduceLT, Int.reduceLE, Int.reduceAdd, Int.reduceSub, Int.reduceNeg, Int.reduceToNat, Int.reducePow, Nat.reducePow, Int.reduceMul, Int.reduceDiv, ↓s_law_RowsHolds, hH1, f1, ↓enterK_eq sm, enterK_eq sm, ↓enterK_eq sm2, enterK_eq sm2, ↓enterK_eq m1, enterK_eq m1, ↓enterK_eq ml, enterK_eq ml, ↓enterK_eq mm, enterK_eq mm, hf]
  subst hf
  obtain ⟨r1, r2, r3, r4, r5⟩ := rowR_ok hrow
  obtain ⟨r1', r2', r3', r4', r5'⟩ := rowR_ok hrow2
  have ra : areP l (kl ++ rl) = true := by unfold rowOk at r1; rw [hv] at r1; simpa using r1
  have ra' : areP m (kl ++ rl) = true := by unfold rowOk at r1'; rw [hv] at r1'; simpa using r1'
  obtain ⟨al, _, ll⟩ := areP_split ra
  obtain ⟨am, _, lm⟩ := areP_split ra'
  have hKl : K.length ≤ 24 := by rw [r2]; exact r4
  have hPl : P.length ≤ 24 := by rw [r2']; exact r4'
  have hVl : V.length ≤ 40 := by rw [r3]; exact r5
  have hQl : Q.length ≤ 40 := by rw [r3']; exact r5'
  have rd1 := q_read n kv rv kl rl K V l w 0 H1 ok1 hk1 hr1 hw1.1 (by omega) (by omega) (by omega) (readR_row hc hrow)
  have rd2 := q_read n kv rv kl rl P Q m u 0 H1 ok1 hk1 hr1 hu1.1 (by omega) (by omega) (by omega) (readR_row hcm hrow2)
  have hD : ((l.length : Int) = (kl.length : Int) + (rl.length : Int)) = True := by simp; omega
  have hE : ((m.length : Int) = (l.length : Int)) = True := by simp; omega
  have z := l_Holds l m w u (.int .u8 many) (.string (mk K)) (.string (mk P)) kv rv n kl.length H.n H1 hw1.1 hu1.1 f1 lk (by omega) (by omega) hvn.2.2.1 (l.take kl.length) (m.take kl.length) 0 (by simp) (by simp) (by omega)
  have z : ∀ K0 : Eng.K, l_law_RowsHolds_0 w u (.int .u8 many) (.pointer (some ⟨H.n, 0, none⟩)) (.string (mk K)) (.string (mk P)) (.int .i64 0) (.int .i64 0) H1 (blkK [1, 2, 3, 4, 9, 12, 15] 0 K0) = K0 .normal [(1, w), (2, u), (3, .int .u8 many), (4, .pointer (some ⟨H.n, 0, none⟩)), (9, .string (mk K)), (12, .string (mk P)), (15, .int .i64 (cmpL (l.take kl.length) (m.take kl.length)))] H1 := z
  have hcl : ∀ c ∈ l.take kl.length, CellOk c := fun c h => hc c (List.mem_of_mem_take h)
  have hcl' : ∀ c ∈ m.take kl.length, CellOk c := fun c h => hcm c (List.mem_of_mem_take h)
  have three := cells_three kl (l.take kl.length) (m.take kl.length) hkk hcl hcl' al am
  have eK : K = by8 n.toNat :: encs (l.take kl.length) := r2
  have eP : P = by8 n.toNat :: encs (m.take kl.length) := r2'
  have three : (cmpL (l.take kl.length) (m.take kl.length) < 0 ∧ Dif K P) ∨ (cmpL (l.take kl.length) (m.take kl.length) = 0 ∧ K = P) ∨ (0 < cmpL (l.take kl.length) (m.take kl.length) ∧ Dif P K) := by
    rw [eK, eP]
    rcases three with ⟨h, d⟩ | ⟨h, d⟩ | ⟨h, d⟩
    · exact .inl ⟨h, d.cons _⟩
    · exact .inr (.inl ⟨h, by rw [d]⟩)
    · exact .inr (.inr ⟨h, d.cons _⟩)
  obtain ⟨c, hcc⟩ : ∃ c, cmpL (l.take kl.length) (m.take kl.length) = c := ⟨_, rfl⟩
  rw [hcc] at z three
  have D1 := keyF three
  -- the span
  have cat : ∀ H, xconv Tryd.prog T.uint8 T.int (.int .u8 many) H = some (.int .i64 many, H) := fun H => by rw [x_uint8_int, wrap_i64 ⟨by omega, by omega⟩]
  obtain ⟨J, hJ⟩ : ∃ J : Nat, many % ((kl.length : Int) + 1) = J := ⟨(many % ((kl.length : Int) + 1)).toNat, by have := Int.emod_nonneg many (b := (kl.length : Int) + 1) (by omega); omega⟩
  have hJ2 : (J : Int) < (kl.length : Int) + 1 := by rw [← hJ]; exact Int.emod_lt_of_pos _ (by omega)
  have em : ∀ ox oy, xbin Tryd.prog .rem T.int ox oy (.int .i64 many) (.int .i64 ((kl.length : Int) + 1)) = some (.int .i64 (J : Int)) := fun ox oy => by rw [remP ha0.1 (by omega), hJ]
  obtain ⟨k5, a5, rd5, _⟩ := hw1.to (sz := 5) rfl (j := J) (q := .i64) (by omega)
  have tt : (l.take kl.length).take J = l.take J := by rw [List.take_take, Nat.min_eq_left (by omega)]
  have tt' : (m.take kl.length).take J = m.take J := by rw [List.take_take, Nat.min_eq_left (by omega)]
  have hso : spanOk n kl rl (l.take J) = true := by
    unfold spanOk
    have h1 := areP_take al J
    rw [tt] at h1
    unfold areP at h1
    simp only [Bool.and_eq_true, decide_eq_true_eq] at h1
    have h2 := are2_take (l.take J) kl (by simp; omega)
    rw [show (l.take J).length = J by simp; omega] at h2
    rw [hv, decide_eq_true (by simp; omega), ← h2, h1.2]; rfl
  obtain ⟨H2, s2, sp⟩ := q_Span n kv rv kl rl (l.take J) k5 H1 ok1 hk1 hr1 rd5.1 (by simp; omega) (fun c h => hc c (List.mem_of_mem_take h)) hso
  obtain ⟨A, hA⟩ : ∃ A, by8 n.toNat :: encs (l.take J) = A := ⟨_, rfl⟩
  rw [hA] at sp
  have c1 := span_cells (n := n) hkk hcl hcl al al J
  have c2 := span_cells (n := n) hkk hcl hcl' al am J
  rw [← eK, tt, hA, decide_eq_true rfl] at c1
  rw [← eP, tt, tt', hA] at c2
  have hAl : A.length ≤ 24 := by
    obtain ⟨r, hr⟩ := isPrefix_iff.1 c1
    rw [hr, List.length_append] at hKl; omega
  rw [if_neg (show ¬ 24 < A.length by omega)] at sp
  have D2 := spF c1 c2
  generalize bump A = B at sp D2
  have hw2 := hw1.still s2
  have hu2 := hu1.still s2
  obtain ⟨k6, a6, rd6, _⟩ := hw2.to (sz := 5) rfl (j := J) (q := .i64) (by omega)
  obtain ⟨k7, a7, rd7, _⟩ := hu2.to (sz := 5) rfl (j := J) (q := .i64) (by omega)
  have ms := q_same (l.take J) (m.take J) k6 k7 H2 rd6.1 rd7.1 (by simp; omega)
  generalize decide (l.take J = m.take J) = ee at ms D2
  clear three c1 c2 hA eK eP hcl hcl' al am ra ra' r1 r1' r2 r2' r3 r3' r4 r4' r5 r5' hn hnm hc hcm hrow hrow2 tt tt' hso
  rcases D1 with (D1 | ⟨_, D1⟩ | ⟨_, D1⟩) | ⟨_, _, D1⟩ | (D1 | ⟨_, D1⟩ | ⟨_, D1⟩) <;>
  rcases D2 with ⟨_, _, D2⟩ | ⟨_, _, D2⟩ | ⟨_, D2⟩ | D2 | D2 <;>
  · obtain ⟨x1, x2, x3, x4, x5, x6, x7, x8, x9, t1, t2⟩ := D1
    obtain ⟨g1, g2, g3, g4, g5, rfl⟩ := D2
    refine any_of (H1 := H2) (d_law_RowsHolds _ _ _ _ H ?_)
    simp (maxSteps := 2000000) (disch := first | with_reducible rfl | assumption | omega | rfl | (simp only [go_sem]; first | done | omega)) only [go_sem, ↓reduceIte, reduceCtorEq, Nat.reduceEqDiff, Nat.reduceAdd, Nat.reduceSub, Nat.reduceMul, Nat.reduceDiv, Nat.reduceMod, Nat.reduceLeDiff, Nat.reduceLT, Nat.reduceBEq, Int.reduceEq, Int.reduceBEq, Int.reduceBNe, Int.reduceLT, Int.reduceLE, Int.reduceAdd, Int.reduceSub, Int.reduceNeg, Int.reduceToNat, Int.reducePow, Nat.reducePow, Int.reduceMul, Int.reduceDiv, s_law_RowsHolds, hH1, f1, ↓enterK_eq sm, enterK_eq sm, ↓enterK_eq sm2, enterK_eq sm2, ↓enterK_eq m1, enterK_eq m1, ↓enterK_eq ml, enterK_eq ml, ↓enterK_eq mm, enterK_eq mm, lw, lk, lr, lu, hD, hE, ↓enterK_eq rd1, enterK_eq rd1, ↓enterK_eq rd2, enterK_eq rd2, z, bl_mk, bool_ne, bool_eq', bne_self_eq_false, beq_self_eq_true, x1, x2, x3, x4, x5, x6, x7, x8, x9, t1, t2, ↓cat, cat, em, a5, ↓enterK_eq sp, enterK_eq sp, g1, g2, g3, g4, g5, a6, a7, ↓enterK_eq ms, enterK_eq ms]

theorem run_RowsHolds (W : World) (v0 : Value) (a : Tb) (h0 : v0 = .agg ⟨ETb.enc a⟩) (hR : (∃ kl, KR (absHeap2 W) a.k.v kl) ∧ ∃ rl, KR (absHeap2 W) a.r.v rl)
    (v : Value) (l : List Cl) (r : RdS ECl T.api_Cell (absHeap2 W) v l) (hn : ∀ x, x ∈ l → NumOk x) (_ : l.length ≤ maxLen) (u : Value) (m : List Cl) (r2 : RdS ECl T.api_Cell (absHeap2 W) u m) (hn2 : ∀ x, x ∈ m → NumOk x) (_ : m.length ≤ maxLen)
    (t : Int) (ht : (Lit.int .u8 t).wf = true) :
    ∃ k H', dCall Tryd.prog prims1 hints k F.law_RowsHolds [v0, v, u, .int .u8 t] (absHeap2 W) = some (.bool true, H') := by
  subst h0
  obtain ⟨⟨kl, hk⟩, rl, hr⟩ := hR
  have ht' : 0 ≤ t ∧ t < 256 := by
    simp [Lit.wf, IntKind.min, IntKind.max, IntKind.signed, IntKind.bits] at ht
    omega
  obtain ⟨H', h⟩ := q_RowsHolds a.n a.k.v a.r.v kl rl l m v u t (absHeap2 W) (fun _ => Nat.zero_lt_one) hk hr r r2 hn hn2 ht'
  obtain ⟨k, h⟩ := D_run h
  exact ⟨k, _, h⟩

end Go.Proofs.YtlmhioanjmhaiaaDoor

/-
  The law RowsHolds: for every input it returns true, and its input reads as it did; and its card.
  Conditions: none. By an AI agent.
-/
namespace Go.Proofs.YtlmhioanjmhaiaaDoor.rowsHolds
open Go Go.ChangeShapes Go.WideShapes Go.ChangeAt Go.RowKit Go.Shelf Go.Lib
open Go.ChangeMaps (open_string shut_string)
set_option linter.unusedVariables false
theorem own : ownKnob Tryd.prog.godebug = none := by kernel_rfl
theorem laidOut : laidOutB Tryd.prog = true := by kernel_rfl
theorem glob (W : World) (hsh : W.ShapedOpen Tryd.prog) : Eng.Glob W.heap.size W := fun g hg => by
  have hg : g = 0 := by simpa [Eng.globs] using hg
  subst hg
  obtain ⟨m, hm⟩ := Go.Proofs.cell_of_shapedOpen_int (zero := #[.int .i64 0]) (t := 3) hsh (of_decide_eq_true (by kernel_rfl)) (by kernel_rfl) rfl (by kernel_rfl) (by kernel_rfl) Tryd.underlying3
  obtain ⟨cs, e, fr, h1, _, _⟩ := Eng.cell_abs hm
  exact ⟨(Array.getElem?_eq_some_iff.1 h1).1, m, hm⟩
set_option maxRecDepth 100000 in
theorem lifted (os : Os) (started : os.Started) (H : Type) (enc : TypeId × Value → H) :
    ReturnsInHanded {} Tryd.checked os 5 .any (fun w args => (Rows.rowsHoldsSpec.pre enc Tryd.prog Tryd.f5 [] false w args ∧ laidMetH Tryd.prog Rows.rowsHoldsRow.laid w) ∧ sizedMet enc Tryd.prog Tryd.f5 (OpenSpec.ofChange Rows.rowsHoldsSpec) false w args)
      (Rows.rowsHoldsSpec.post enc Tryd.prog Tryd.f5 false true false false) := by
  refine Eng.wrapX (C := Tryd.checked) (X := fun w _ => laidMetH Tryd.prog Rows.rowsHoldsRow.laid w) (fun _ _ _ hh h => h.of_heap hh) own started (by kernel_rfl) Tryd.func5
    (ChangeSpec.witness_shaped (enc := enc) (C := Tryd.checked) (os := os) (X := fun w _ => laidMetH Tryd.prog Rows.rowsHoldsRow.laid w) false (World.laidAll Tryd.prog os Rows.rowsHoldsRow.laid) #[.agg #[(.int .i64 0), (.slice none 0 0), (.slice none 0 0)], .slice none 0 0, .slice none 0 0, .int .u8 0] 8 (World.laidAll_os _ _ _)
      (World.shaped_of_ZipB (by kernel_rfl) (by kernel_rfl)) (by kernel_rfl) (by kernel_rfl) (by kernel_rfl)
      (by rw [MakeChecks.laidMetH_plain _ _ _ (by kernel_rfl)]; exact laidMet_laidAll _ (by kernel_rfl) (by kernel_rfl))) ?_
  intro W base args ds gs before hval0 hW hsz0 hsh
  have hsz : (DataW.weightsEach Tryd.prog (Tryd.f5.params.toList ++ Rows.rowsHoldsSpec.plain.varTypes Tryd.prog) (ds ++ gs)).all (· ≤ reachBytes) = true := hsz0
  have hval : ∀ (j : Nat) t v, Tryd.f5.params[j]? = some t → args[j]? = some v → Value.okWide Tryd.prog W .any base t v := hval0
  have hW' := hW
  obtain ⟨p, q, hA0, hV, rfl, hfz, hnd⟩ := hW
  have hA : DataW.TrodAll enc Tryd.prog W 0 (fun _ => true) true Tryd.f5.params.toList args.toList ds p := hA0
  rw [Tryd.params5] at hA hval hsz
  obtain ⟨v0, vs0, d0, ds0, p0, q0, hargs, rfl, rfl, h0, r0⟩ := trodAll_cons hA
  obtain ⟨v1, vs1, d1, ds1, p1, q1, rfl, rfl, rfl, h1, r1⟩ := trodAll_cons r0
  obtain ⟨v2, vs2, d2, ds2, p2, q2, rfl, rfl, rfl, h2, r2⟩ := trodAll_cons r1
  obtain ⟨v3, vs3, d3, ds3, p3, q3, rfl, rfl, rfl, h3, r3⟩ := trodAll_cons r2
  obtain ⟨rfl, rfl, rfl⟩ := trodAll_nil r3
  obtain rfl : args = #[v0, v1, v2, v3] := by cases args; simp_all
  obtain ⟨rfl, rfl⟩ := trodVars_none hV
  have k0 := h0
  have lt0 : ∀ x ∈ p0, x.block < W.heap.size := by obtain ⟨m, hm⟩ := k0; exact DataW.trod_lt m _ _ _ hm
  obtain ⟨l0, rd0, all0⟩ := Eng.open_agg2 (t := 24) Tryd.underlying24 (by kernel_rfl) (fun cs n y hp h hl => decTb hp h hl) (hval 0 24 v0 rfl rfl) k0
  have k1 := h1
  have lt1 : ∀ x ∈ p1, x.block < W.heap.size := by obtain ⟨m, hm⟩ := k1; exact DataW.trod_lt m _ _ _ hm
  obtain ⟨l1, rd1, all1, len1⟩ := Eng.open_rd2 (t := 25) (e' := 44) Tryd.underlying25 (by kernel_rfl) (fun hp cs n y h hl => decClN hp h hl) (hval 1 25 v1 rfl rfl) k1
  have k2 := h2
  have lt2 : ∀ x ∈ p2, x.block < W.heap.size := by obtain ⟨m, hm⟩ := k2; exact DataW.trod_lt m _ _ _ hm
  obtain ⟨l2, rd2, all2, len2⟩ := Eng.open_rd2 (t := 25) (e' := 44) Tryd.underlying25 (by kernel_rfl) (fun hp cs n y h hl => decClN hp h hl) (hval 2 25 v2 rfl rfl) k2
  obtain ⟨a3, rfl, rfl, rfl, w3⟩ := open_int Tryd.underlying5 (hval 3 5 v3 rfl rfl) h3
  refine (Eng.law_calls2 (args := #[v0, v1, v2, .int .u8 a3]) prims1_ok mixed (glob W hsh) (run_RowsHolds W (Eng.convA2 W.heap.size v0) l0 rd0 all0 (Eng.convA2 W.heap.size v1) l1 rd1 all1 len1 (Eng.convA2 W.heap.size v2) l2 rd2 all2 len2 a3 w3)).mono fun e W' ⟨he, bel⟩ => ?_
  subst he
  exact ⟨_, rfl, _, _, _, [], _, [], hW', trodAll_mk1 (shut_bool Tryd.underlying4 _), (trodAll_cons_mk (Below.trod laidOut (by kernel_rfl) (of_decide_eq_true (by kernel_rfl)) k0 bel lt0) (trodAll_cons_mk (Below.trod laidOut (by kernel_rfl) (of_decide_eq_true (by kernel_rfl)) k1 bel lt1) (trodAll_cons_mk (Below.trod laidOut (by kernel_rfl) (of_decide_eq_true (by kernel_rfl)) k2 bel lt2) (trodAll_cons_mk (shut_int Tryd.underlying5 w3) trodAll_mk0)))), rfl, bel.frame _, fun h => by cases h⟩

theorem over : Rows.rowsHoldsRow.holds Tryd.pinned (OpenSpec.ofChange Rows.rowsHoldsSpec) :=
  OpenClaim.holds_of_wide 5 Tryd.f5 rfl rfl rfl rfl rfl rfl rfl ⟨rfl, rfl, rfl, rfl, rfl⟩ rfl rfl rfl rfl rfl (by kernel_rfl) Tryd.func5 (by kernel_rfl)
    (of_decide_eq_true (by kernel_rfl)) (by unfold Func.isWrapper; first | (rw [if_pos (by decide +kernel)]; kernel_rfl) | (rw [if_neg (by decide +kernel)]; exact ⟨rfl, rfl⟩))
    (fun os started H enc _ => lifted os started H enc)
theorem proved : Rows.RowsHoldsCardSaid :=
  Claim7.holds_tied_plain_at .later [] [.data, .pinned] true (true, "aaed328d676b259d80c0dea683c8657178ef62b17664fbaf17bcdc3b4d96b0a3") false over (fun _ h => by cases h) (by kernel_rfl) (fun _ h => by cases h) rowsHolds_row_tie rfl ⟨rfl, rfl⟩ (by kernel_rfl) rfl
    (fun f fn hf hfn => by
      obtain rfl : f = 5 := Option.some.inj ((show Tryd.prog.funcNamed "ticketline/ticketlinelaw40.RowsHolds" = some 5 by kernel_rfl).symm.trans hf) |>.symm
      obtain rfl : fn = Tryd.f5 := (Option.some.inj (Tryd.func5.symm.trans hfn)).symm
      exact ⟨by kernel_rfl, fun j t ht => by
        rw [Tryd.params5] at ht
        have hm : t ∈ [24, 25, 25, 5] := by simpa using Array.mem_of_getElem? ht
        have hall : ([24, 25, 25, 5].all fun u => !Tryd.prog.wantsStandIn u) = true := by kernel_rfl
        exact (show Tryd.prog.wantsStandIn t = false by simpa using List.all_eq_true.1 hall t hm)⟩)
    (by kernel_rfl)
#print axioms proved
end Go.Proofs.YtlmhioanjmhaiaaDoor.rowsHolds
namespace Go.Proofs.YtlmhioanjmhaiaaDoor
/-- The card, under a short name, for the claim. -/
theorem rowsHolds_card : Rows.RowsHoldsCardSaid := rowsHolds.proved
end Go.Proofs.YtlmhioanjmhaiaaDoor
