/-
  The engine, part 8: the abstract machine names no block that is not there.
  Conditions: none. By an AI agent.
-/
import Derived.Test.YtlagijfkkpbbnaaEng7
namespace Go.Proofs.Ytlagijfkkpbbnaa.Eng
open Go

/-- The value names blocks below n alone. -/
inductive AD (n : Nat) : Value → Prop
  | unk : AD n (.chan none)
  | bool (b : Bool) : AD n (.bool b)
  | int (k : IntKind) (m : Int) : AD n (.int k m)
  | flo (k : FloatKind) (m : Nat) : AD n (.float k m)
  | str (s : ByteArray) : AD n (.string s)
  | nilp : AD n (.pointer none)
  | ptr {b o : Nat} (h : b < n) : AD n (.pointer (some ⟨b, o, none⟩))
  | nils : AD n (.slice none 0 0)
  | sl {b o l c : Nat} {s : Option Nat} (h : b < n) : AD n (.slice (some ⟨b, o, s⟩) l c)
  | nilm : AD n (.map none)
  | map {b : Nat} (h : b < n) : AD n (.map (some b))
  | func {f : FuncId} {x c : Array Value} (h1 : ∀ v, v ∈ x.toList → AD n v) (h2 : ∀ v, v ∈ c.toList → AD n v) : AD n (.func (.func f) x c)
  | nilfn : AD n .nilFunc
  | nili : AD n .nilIface
  | iface {t : TypeId} {v : Value} (h : AD n v) : AD n (.iface t v)
  | agg {x : Array Value} (h : ∀ v, v ∈ x.toList → AD n v) : AD n (.agg x)
  | tup {x : Array Value} (h : ∀ v, v ∈ x.toList → AD n v) : AD n (.tuple x)

theorem AD.mono {n m : Nat} (h : n ≤ m) {v : Value} (a : AD n v) : AD m v := by
  induction a with
  | unk => exact .unk
  | bool b => exact .bool b
  | int k m => exact .int k m
  | flo k m => exact .flo k m
  | str s => exact .str s
  | nilp => exact .nilp
  | ptr h' => exact .ptr (by omega)
  | nils => exact .nils
  | sl h' => exact .sl (by omega)
  | nilm => exact .nilm
  | map h' => exact .map (by omega)
  | func _ _ i1 i2 => exact .func i1 i2
  | nilfn => exact .nilfn
  | nili => exact .nili
  | iface _ ih => exact .iface ih
  | agg _ ih => exact .agg ih
  | tup _ ih => exact .tup ih

theorem AD.of_gr : ∀ {k n : Nat} {v : Value}, gr k v = true → AD n v
  | 0, _, _, h => by simp [gr] at h
  | k + 1, n, v, hg => by
    have ih : ∀ {v : Value}, gr k v = true → AD n v := fun a => AD.of_gr a
    have arr : ∀ {x : Array Value}, x.toList.all (gr k) = true → ∀ v, v ∈ x.toList → AD n v := fun hx v hv => ih (List.all_eq_true.1 hx v hv)
    cases v with
    | bool b => exact .bool b
    | int k m => exact .int k m
    | float k m => exact .flo k m
    | complex => simp [gr] at hg
    | string s => exact .str s
    | pointer a => cases a with
      | none => exact .nilp
      | some a => simp [gr] at hg
    | slice a l c =>
      cases a with
      | none =>
        cases l with
        | zero => cases c with
          | zero => exact .nils
          | succ c => simp [gr] at hg
        | succ l => simp [gr] at hg
      | some a => simp [gr] at hg
    | map r => cases r with
      | none => exact .nilm
      | some r => simp [gr] at hg
    | chan => simp [gr] at hg
    | func fn x c =>
      cases fn with
      | func f =>
        simp only [gr, Bool.and_eq_true] at hg
        exact .func (arr hg.1) (arr hg.2)
      | _ => simp [gr] at hg
    | nilFunc => exact .nilfn
    | iface t v => simp only [gr] at hg; exact .iface (ih hg)
    | nilIface => exact .nili
    | agg cs => simp only [gr] at hg; exact .agg (arr hg)
    | tuple cs => simp only [gr] at hg; exact .tup (arr hg)

/-- The relation below n. -/
def low (n : Nat) (ι : Emb) : Emb := fun b => if b < n then ι b else none

theorem low_some {n : Nat} {ι : Emb} {b : Nat} {L : Loc} : low n ι b = some L ↔ b < n ∧ ι b = some L := by
  unfold low
  split
  · simp [*]
  · simp; intro h; omega

theorem AD.arr {n : Nat} {x : Array Value} (h : ∀ v, v ∈ x.toList → AD n v) {i : Nat} {v : Value} (hv : x[i]? = some v) : AD n v := h v (by simpa using Array.mem_of_getElem? hv)

theorem RV.low {ι : Emb} {n : Nat} {v v' : Value} (h : RV ι v v') : AD n v → RV (low n ι) v v' := by
  induction h with
  | unk c => intro _; exact .unk c
  | bool b => intro _; exact .bool b
  | int k n => intro _; exact .int k n
  | flo k n => intro _; exact .flo k n
  | str s => intro _; exact .str s
  | nilp => intro _; exact .nilp
  | ptr h => intro a; cases a with | ptr hb => exact .ptr (low_some.2 ⟨hb, h⟩)
  | nils => intro _; exact .nils
  | sle h hn => intro a; cases a with | sl hb => exact .sle (low_some.2 ⟨hb, h⟩) hn
  | sli h hc hn ht => intro a; cases a with | sl hb => exact .sli (low_some.2 ⟨hb, h⟩) hc hn ht
  | sl0 hk => intro _; exact .sl0 hk
  | nilm => intro _; exact .nilm
  | map h => intro a; cases a with | map hb => exact .map (low_some.2 ⟨hb, h⟩)
  | func h1 _ h3 _ i2 i4 => intro a; cases a with | func a1 a2 => exact .func h1 (fun i v v' hv hv' => i2 i v v' hv hv' (AD.arr a1 hv)) h3 (fun i v v' hv hv' => i4 i v v' hv hv' (AD.arr a2 hv))
  | nilfn => intro _; exact .nilfn
  | nili => intro _; exact .nili
  | iface _ ih => intro a; cases a with | iface h => exact .iface (ih h)
  | agg h1 _ i2 => intro a; cases a with | agg a1 => exact .agg h1 (fun i v v' hv hv' => i2 i v v' hv hv' (AD.arr a1 hv))
  | tup h1 _ i2 => intro a; cases a with | tup a1 => exact .tup h1 (fun i v v' hv hv' => i2 i v v' hv hv' (AD.arr a1 hv))

/-- Lists. -/
def ADs (n : Nat) (l : List Value) : Prop := ∀ v, v ∈ l → AD n v

theorem ADs.mono {n m : Nat} (h : n ≤ m) {l : List Value} (a : ADs n l) : ADs m l := fun v hv => (a v hv).mono h
theorem ADs.nil {n : Nat} : ADs n [] := fun v h => by cases h
theorem ADs.cons {n : Nat} {v : Value} {l : List Value} (h : AD n v) (t : ADs n l) : ADs n (v :: l) := fun u hu => by
  rcases List.mem_cons.1 hu with rfl | hu
  · exact h
  · exact t u hu
theorem ADs.append {n : Nat} {a b : List Value} (h : ADs n a) (k : ADs n b) : ADs n (a ++ b) := fun u hu => (List.mem_append.1 hu).elim (h u) (k u)
theorem ADs.take {n : Nat} {a : List Value} (h : ADs n a) (m : Nat) : ADs n (a.take m) := fun u hu => h u (List.mem_of_mem_take hu)
theorem ADs.drop {n : Nat} {a : List Value} (h : ADs n a) (m : Nat) : ADs n (a.drop m) := fun u hu => h u (List.mem_of_mem_drop hu)
theorem ADs.get {n : Nat} {a : List Value} (h : ADs n a) {i : Nat} {v : Value} (hv : a[i]? = some v) : AD n v := h v (List.mem_of_getElem? hv)
theorem ADs.spl {n : Nat} : ∀ {vs : List Value}, ADs n vs → ∀ {xs : List Value} {o : Nat}, ADs n xs → ADs n (spl xs o vs)
  | [], _, _, _, h => h
  | v :: r, hv, xs, o, h => by
    refine ADs.spl (vs := r) (fun u hu => hv u (by simp [hu])) (fun u hu => ?_)
    rcases List.mem_or_eq_of_mem_set hu with hu | rfl
    · exact h u hu
    · exact hv _ (by simp)

theorem ADs.zeros {m : Nat} {z : List Value} (h : ADs m z) : ∀ n, ADs m (zeros z n)
  | 0 => ADs.nil
  | n + 1 => h.append (ADs.zeros h n)

theorem ADs.bytes {n : Nat} (l : List UInt8) : ADs n (l.map byteCell) := fun v hv => by
  obtain ⟨b, _, rfl⟩ := List.mem_map.1 hv
  exact .int _ _

theorem AD.flat {n : Nat} {v : Value} (h : AD n v) {l : List Value} (hf : flat v = some l) : ADs n l := by
  cases h <;> simp [Eng.flat] at hf <;> subst hf
  all_goals first
    | (rename_i h; exact h)
    | (refine ADs.cons ?_ ADs.nil; constructor <;> assumption)

/-- Each block of cells names blocks that are there. -/
structure Cl (H : AHeap) : Prop where
  cells : ∀ b xs e rw, H.f b = .cells xs e rw → ADs H.n xs
  maps : ∀ b es, H.f b = .map es → ∀ p, p ∈ es → AD H.n p.2
  ver : ∀ b, H.ver b < H.clk

theorem Cl.push {H : AHeap} (h : Cl H) {k : Blk} (hc : ∀ xs e rw, k = .cells xs e rw → ADs (H.n + 1) xs) (hm : ∀ es, k = .map es → ∀ p, p ∈ es → AD (H.n + 1) p.2) : Cl (H.push k) := by
  constructor
  · intro b xs e rw hb
    by_cases h1 : b = H.n
    · subst h1; rw [AHeap.push_new] at hb; exact hc xs e rw hb
    · rw [AHeap.push_old _ _ h1] at hb; exact (h.cells b xs e rw hb).mono (by simp)
  · intro b es hb p hp
    by_cases h1 : b = H.n
    · subst h1; rw [AHeap.push_new] at hb; exact hm es hb p hp
    · rw [AHeap.push_old _ _ h1] at hb; exact (h.maps b es hb p hp).mono (by simp)
  · intro b
    have h0 := h.ver b
    by_cases hb : b = H.n
    · subst hb; simp; omega
    · rw [AHeap.push_ver _ _ hb]; simpa using h0

theorem Cl.row {H : AHeap} (h : Cl H) {xs : List Value} {e : TypeId} {rw : Bool} (hx : ADs (H.n + 1) xs) : Cl (H.push (.cells xs e rw)) :=
  h.push (fun _ _ _ hk => by cases hk; exact hx) (fun _ hk => by cases hk)

theorem Cl.set {H : AHeap} (h : Cl H) (b : Nat) {k : Blk} (hc : ∀ xs e rw, k = .cells xs e rw → ADs H.n xs) (hm : ∀ es, k = .map es → ∀ p, p ∈ es → AD H.n p.2) : Cl (H.set b k) := by
  constructor
  · intro c xs e rw hb
    by_cases h1 : c = b
    · subst h1; rw [AHeap.set_same] at hb; exact hc xs e rw hb
    · rw [AHeap.set_other _ _ h1] at hb; exact h.cells c xs e rw hb
  · intro c es hb p hp
    by_cases h1 : c = b
    · subst h1; rw [AHeap.set_same] at hb; exact hm es hb p hp
    · rw [AHeap.set_other _ _ h1] at hb; exact h.maps c es hb p hp
  · intro c
    have := h.ver c
    by_cases h1 : c = b
    · subst h1; simp
    · rw [AHeap.set_ver _ _ h1]; simp; omega

theorem Cl.cut {H : AHeap} (h : Cl H) {b o n : Nat} {l : List Value} (hl : Eng.cut H b o n = some l) : ADs H.n l := by
  obtain ⟨xs, e, rw, hH, _, rfl⟩ := cut_inv hl
  exact ((h.cells b xs e rw hH).drop o).take n

theorem Cl.stL {H : AHeap} (h : Cl H) {b o : Nat} {vs : List Value} (hv : ADs H.n vs) {H' : AHeap} (hs : Eng.stL H b o vs = some H') : Cl H' ∧ H'.n = H.n ∧ VO H H' := by
  obtain ⟨xs, e, hH, _, _, rfl⟩ := stL_inv hs
  exact ⟨h.set b (fun _ _ _ hk => by cases hk; exact ADs.spl hv (h.cells b xs e true hH)) (fun _ hk => by cases hk), rfl, VO.set _ _ _ (by simp [hH, alive])⟩

variable {P : Program} {H H' : AHeap}

/-- What holds behind an operation. -/
def OkV (H H' : AHeap) (v : Value) : Prop := Cl H' ∧ AD H'.n v ∧ VO H H'

theorem xload_ad (h : Cl H) {t : TypeId} {a v : Value} (hl : xload P t a H = some v) : AD H.n v := by
  unfold xload at hl
  split at hl
  · unfold ldN at hl
    split at hl
    · simp only [Option.map_eq_some_iff] at hl
      obtain ⟨l, hl, rfl⟩ := hl
      exact .agg (h.cut hl)
    · simp at hl
  · unfold ld1 at hl
    split at hl
    · split at hl
      · rename_i hH; exact (h.cells _ _ _ _ hH).get hl
      · simp at hl
    · simp at hl
  · simp at hl

theorem xstore_ad (h : Cl H) {t : TypeId} {a v : Value} (hv : AD H.n v) (hs : xstore P t a v H = some H') : Cl H' ∧ H'.n = H.n ∧ VO H H' := by
  unfold xstore at hs
  split at hs
  · unfold stN at hs
    split at hs
    · split at hs
      · cases hv with | agg hx => exact h.stL hx hs
      · simp at hs
    · simp at hs
  · split at hs
    · unfold st1 at hs
      split at hs
      · split at hs
        · rename_i hH
          split at hs
          · split at hs
            · simp at hs
              subst hs
              refine ⟨h.set _ (fun _ _ _ hk => ?_) (fun _ hk => by cases hk), rfl, VO.set _ _ _ (by simp [hH, alive])⟩
              cases hk
              intro u hu
              rcases List.mem_or_eq_of_mem_set hu with hu | rfl
              · exact h.cells _ _ _ true hH u hu
              · exact hv
            · simp at hs
          · simp at hs
        · simp at hs
      · simp at hs
    · simp at hs
  · simp at hs

theorem newv_ad (h : Cl H) {t : TypeId} {v a : Value} (hv : AD H.n v) (hs : newv t v H = some (a, H')) : OkV H H' a := by
  unfold newv at hs
  simp only [Option.map_eq_some_iff] at hs
  obtain ⟨l, hl, hs⟩ := hs
  cases hs
  exact ⟨h.row ((hv.flat hl).mono (by omega)), .ptr (by simp), VO.push _ _⟩

theorem fillX_ad {n : Nat} {place : Nat → Option (Nat × Nat)} : ∀ {parts : List (Nat × Value)} {x out : Array Value}, (∀ p, p ∈ parts → AD n p.2) → (∀ v, v ∈ x.toList → AD n v) → fillX place x parts = some out → ∀ v, v ∈ out.toList → AD n v
  | [], x, out, _, hx, h => by simp [fillX] at h; subst h; exact hx
  | (i, v) :: rest, x, out, hp, hx, h => by
    simp only [fillX] at h
    split at h
    · rename_i off size l hpl hf
      split at h
      · simp at h
      · refine fillX_ad (fun p hp' => hp p (by simp [hp'])) ?_ h
        have hl : ADs n l := (hp (i, v) (by simp)).flat hf
        have key : ∀ (l : List Value) (k : Nat) (x : Array Value), ADs n l → (∀ v, v ∈ x.toList → AD n v) → ∀ v, v ∈ ((l.zipIdx k).foldl (fun cs (p : Value × Nat) => cs.setIfInBounds (off + p.2) p.1) x).toList → AD n v := by
          intro l
          induction l with
          | nil => intro k x _ hx; simpa using hx
          | cons a l ih =>
            intro k x hl hx
            simp only [List.zipIdx_cons, List.foldl_cons]
            refine ih (k + 1) _ (fun u hu => hl u (by simp [hu])) (fun u hu => ?_)
            rw [Array.toList_setIfInBounds] at hu
            rcases List.mem_or_eq_of_mem_set hu with hu | rfl
            · exact hx u hu
            · exact hl _ (by simp)
        exact key l 0 x hl hx
    · simp at h

theorem xpart_ad {n : Nat} {t : TypeId} {x v : Value} {off : Nat} (hx : AD n x) (h : xpart P t x off = some v) : AD n v := by
  unfold xpart at h
  split at h
  · unfold prtN at h
    split at h
    · simp at h
      subst h
      cases hx with
      | agg hx =>
        refine .agg fun u hu => hx u ?_
        rw [Array.toList_extract] at hu
        exact List.mem_of_mem_drop (List.mem_of_mem_take hu)
    · simp at h
  · unfold prt1 at h
    split at h
    · cases hx with | agg hx => exact AD.arr hx h
    · simp at h
  · simp at h

end Go.Proofs.Ytlagijfkkpbbnaa.Eng
