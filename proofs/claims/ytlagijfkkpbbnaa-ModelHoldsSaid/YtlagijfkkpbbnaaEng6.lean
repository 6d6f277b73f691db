/-
  The engine, part 6: copy, clear, len, calls; any operation.
  Conditions: none. By an AI agent.
-/
import Derived.Test.YtlagijfkkpbbnaaEng5
import Derived.Laws.Externs
import Derived.KernelRfl
namespace Go.Proofs.Ytlagijfkkpbbnaa.Eng
open Go

variable {P : Program} {B : Nat} {ι : Emb} {H : AHeap} {w : World}

/-- Where a slice that is not empty lies. -/
theorem slice_at {b o n code : Nat} {x' : Value} (hn : n ≠ 0) (h : RV ι (.slice (some ⟨b, o, none⟩) n code) x') : ∃ L c, ι b = some L ∧ x' = .slice (some ⟨L.cb, L.base + o, none⟩) n c := by
  cases h with
  | sle hb hc => exact ⟨_, _, hb, rfl⟩
  | sli hb hc hn' ht => exact ⟨_, _, hb, rfl⟩
  | sl0 hk => omega

theorem slice_len {a : Option Addr} {n code : Nat} {x' : Value} (h : RV ι (.slice a n code) x') : ∃ a' c, x' = .slice a' n c := by
  cases h with
  | nils => exact ⟨_, _, rfl⟩
  | sle hb hc => exact ⟨_, _, rfl⟩
  | sli hb hc hn' ht => exact ⟨_, _, rfl⟩
  | sl0 hk => exact ⟨_, _, rfl⟩

theorem firstCells_zero (sz : Nat) (a : Option Addr) (n c : Nat) : (Builtin.firstCells sz 0 (.slice a n c)).run P w = .ok #[] w := by
  cases a <;> simp [Builtin.firstCells, loadCells, loadCellsFrom]

theorem xcopy_sound (r : Rel P B ι H w) {ts : List TypeId} {ty : TypeId} {d d' s s' v : Value} {H' : AHeap} (hd : RV ι d d') (hs : RV ι s s') (h : xcopy P ts d s H = some (v, H')) :
    Good P B ι H w v H' ((Builtin.copy_ ts.toArray ty #[d', s']).run P w) := by
  unfold xcopy at h
  split at h
  · simp at h
  · rename_i t rest
    split at h
    · rename_i e hu
      simp only [Option.bind_eq_some_iff] at h
      obtain ⟨sz, hsz, h⟩ := h
      have hz := sizeQ_run hsz
      unfold cpy at h
      split at h
      · rename_i base dl dc sb sl sc
        obtain ⟨base', dc', rfl⟩ := slice_len hd
        obtain ⟨sb', sc', rfl⟩ := slice_len hs
        split at h
        · rename_i h0
          simp at h
          obtain ⟨rfl, rfl⟩ := h
          refine Good.still r (v' := goInt 0) (.int _ _) ?_
          have := firstCells_zero (P := P) (w := w) sz sb' sl sc'
          cases base' <;> simp [Builtin.copy_, run_under hu, Builtin.lenOf, h0, hz, this, storeCells]
        · rename_i h0
          have hm : Nat.min sl dl ≤ sl ∧ Nat.min sl dl ≤ dl := ⟨Nat.min_le_left _ _, Nat.min_le_right _ _⟩
          split at h
          · rename_i b1 o1 b o
            simp only [Option.bind_eq_some_iff, Option.map_eq_some_iff] at h
            obtain ⟨l, hl, H1, hst, h⟩ := h
            cases h
            obtain ⟨L1, c1, hb1, e1⟩ := slice_at (by omega) hs
            obtain ⟨L, c, hb, e2⟩ := slice_at (by omega) hd
            cases e1
            cases e2
            obtain ⟨l', k1, k2, k3⟩ := r.loadCells hb1 hl
            obtain ⟨xs, e0, hH, hfit, hone, rfl⟩ := stL_inv hst
            obtain ⟨q1, q2, q3⟩ := r.stored hb hH k1 hfit hone
            refine ⟨ι, goInt (Nat.min sl dl), _, ?_, .int _ _, q2, q3⟩
            simp [Builtin.copy_, run_under hu, Builtin.lenOf, hz, Builtin.firstCells, k3, q1]
          · simp at h
      · simp at h
    · simp at h

theorem xclear_sound (r : Rel P B ι H w) {ts : List TypeId} {ty : TypeId} {x x' v : Value} {H' : AHeap} (hx : RV ι x x') (h : xclear P ts x H = some (v, H')) :
    Good P B ι H w v H' ((Builtin.clear_ ts.toArray ty #[x']).run P w) := by
  unfold xclear at h
  split at h
  · simp at h
  · rename_i t rest
    split at h
    · rename_i e hu
      cases hx
      simp at h
      obtain ⟨rfl, rfl⟩ := h
      refine Good.still r (v' := .tuple #[]) (gr_rel (n := 1) (by simp [gr])) ?_
      simp [Builtin.clear_, run_under hu]
    · rename_i e b o n code hu
      split at h
      · rename_i hn
        subst hn
        simp at h
        obtain ⟨rfl, rfl⟩ := h
        obtain ⟨a', c', rfl⟩ := slice_len hx
        refine Good.still r (v' := .tuple #[]) (gr_rel (n := 1) (by simp [gr])) ?_
        cases a' <;> simp [Builtin.clear_, run_under hu]
      · rename_i hn
        simp only [Option.bind_eq_some_iff, Option.map_eq_some_iff] at h
        obtain ⟨z, hz, H1, hst, h⟩ := h
        cases h
        obtain ⟨i, zv, hi, hz', hg, hzl, hsz, hpos⟩ := zrow_inv hz
        obtain ⟨L, c, hb, rfl⟩ := slice_at hn hx
        obtain ⟨xs, e0, hH, hfit, hone, rfl⟩ := stL_inv hst
        have hcell : RVs ι z z := by rw [← hzl]; exact gr_cells hg
        obtain ⟨q1, q2, q3⟩ := r.stored hb hH (zeros_rel hcell n) hfit hone
        refine ⟨ι, .tuple #[], _, ?_, gr_rel (n := 1) (by simp [gr]), q2, q3⟩
        have hpos' : 0 < zv.cells.size := by rw [← hzl] at hpos; simpa using hpos
        have := zeroCells_eq zv.cells hpos' n
        rw [hzl] at this
        obtain ⟨m, rfl⟩ : ∃ m, n = m + 1 := ⟨n - 1, by omega⟩
        simp [Builtin.clear_, run_under hu, zeroValue, typeInfo, hi, hz', this, q1]
    · simp at h

theorem xlen_sound {ts : List TypeId} {ty : TypeId} {x x' v : Value} (hx : RV ι x x') (h : xlen P ts x = some v) :
    (Builtin.len_ ts.toArray ty #[x']).run P w = .ok v w ∧ RV ι v v := by
  unfold xlen at h
  split at h
  · simp at h
  · rename_i t rest
    split at h
    · rename_i s hu
      cases hx
      simp at h
      subst h
      exact ⟨by simp [Builtin.len_, run_under hu, bl_size], .int _ _⟩
    · rename_i e a n c hu
      obtain ⟨a', c', rfl⟩ := slice_len hx
      simp at h
      subst h
      exact ⟨by simp [Builtin.len_, run_under hu], .int _ _⟩
    · rename_i n e hu
      simp at h
      subst h
      exact ⟨by simp [Builtin.len_, run_under hu], .int _ _⟩
    · simp at h

theorem xcap_sound {ts : List TypeId} {ty : TypeId} {x x' v : Value} (hx : RV ι x x') (h : xcap P ts x = some v) :
    (Builtin.cap_ ts.toArray ty #[x']).run P w = .ok v w ∧ RV ι v v := by
  unfold xcap at h
  split at h
  · simp at h
  · rename_i t rest
    split at h
    · rename_i e hu
      cases hx
      simp at h
      subst h
      exact ⟨by simp [Builtin.cap_, run_under hu], .int _ _⟩
    · rename_i e b o n code hu
      split at h
      · rename_i hc
        simp at h
        subst h
        cases hx with
        | sle hL hn => exact ⟨by simp [Builtin.cap_, run_under hu], .int _ _⟩
        | sli hL _ _ _ => omega
        | sl0 hk =>
          have : code = 0 := by omega
          subst this
          exact ⟨by simp [Builtin.cap_, run_under hu], .int _ _⟩
      · simp at h
    · simp at h

/-- The value that an operation leaves in its temporary. -/
def nextVal : Next → Option Value
  | .value v => some v
  | .skip => some undef
  | _ => none

theorem undef_rel : RV ι undef undef := gr_rel (n := 1) (by simp [gr, undef])

/-- What holds behind an operation that is no call of a Go function. -/
def GoodN (P : Program) (B : Nat) (ι : Emb) (H : AHeap) (w : World) (v : Value) (H' : AHeap) (r : Result Next) : Prop :=
  ∃ ι' nx v' w', r = .ok nx w' ∧ nextVal nx = some v' ∧ RV ι' v v' ∧ Rel P B ι' H' w' ∧ Stp ι H w ι' H' w'

theorem Good.next {v : Value} {H' : AHeap} {s : Sem Value} (h : Good P B ι H w v H' (s.run P w)) : GoodN P B ι H w v H' ((do pure (.value (← s)) : Sem Next).run P w) := by
  obtain ⟨ι', v', w', h1, h2, h3, h4⟩ := h
  exact ⟨ι', .value v', v', w', by simp [h1], rfl, h2, h3, h4⟩

theorem Good.next' (r : Rel P B ι H w) {v : Value} {s : Sem Value} (h : ∃ v', s.run P w = .ok v' w ∧ RV ι v v') : GoodN P B ι H w v H ((do pure (.value (← s)) : Sem Next).run P w) := by
  obtain ⟨v', h1, h2⟩ := h
  exact Good.next (Good.still r h2 h1)

theorem RVs.map {α : Type} {l : List α} {f g : α → Value} (h : ∀ x ∈ l, RV ι (f x) (g x)) : RVs ι (l.map f) (l.map g) := by
  induction l with
  | nil => exact .nil
  | cons a l ih => exact .cons (h a (by simp)) (ih fun x hx => h x (by simp [hx]))

theorem RP.map {l : List (Nat × Operand)} {f g : Operand → Value} (h : ∀ x, RV ι (f x) (g x)) : RP ι (l.map fun p => (p.1, f p.2)) (l.map fun p => (p.1, g p.2)) := by
  induction l with
  | nil => exact .nil
  | cons a l ih => exact .cons (h _) ih

theorem RO.map {o : Option Operand} {f g : Operand → Value} (h : ∀ x, RV ι (f x) (g x)) : RO ι (o.map f) (o.map g) := by
  cases o with
  | none => exact .none
  | some a => exact .some (h a)

theorem rvs_two {l' : List Value} {a b : Value} (h : RVs ι [a, b] l') : ∃ a' b', l' = [a', b'] ∧ RV ι a a' ∧ RV ι b b' := by
  cases h with
  | cons h1 t => cases t with
    | cons h2 t => cases t; exact ⟨_, _, rfl, h1, h2⟩

theorem rvs_one {l' : List Value} {a : Value} (h : RVs ι [a] l') : ∃ a', l' = [a'] ∧ RV ι a a' := by
  cases h with
  | cons h1 t => cases t; exact ⟨_, rfl, h1⟩

theorem rvs_gr : ∀ {l l' : List Value}, l.all (gr 9) = true → RVs ι l l' → l' = l
  | _, _, _, .nil => rfl
  | _, _, hg, .cons h t => by
    simp only [List.all_cons, Bool.and_eq_true] at hg
    rw [gr_eq hg.1 h, rvs_gr hg.2 t]

theorem bare_inv {o : Option Value} {n : DNext} (h : bare o H = some n) : ∃ v, o = some v ∧ n = .val v H := by
  simp only [bare, Option.map_eq_some_iff] at h
  obtain ⟨v, h1, h2⟩ := h
  exact ⟨v, h1, h2.symm⟩

theorem both_inv {o : Option (Value × AHeap)} {n : DNext} (h : both o = some n) : ∃ v H', o = some (v, H') ∧ n = .val v H' := by
  simp only [both, Option.map_eq_some_iff] at h
  obtain ⟨v, h1, h2⟩ := h
  exact ⟨v.1, v.2, h1, h2.symm⟩

theorem quiet_inv {o : Option AHeap} {n : DNext} (h : quiet o = some n) : ∃ H', o = some H' ∧ n = .val undef H' := by
  simp only [quiet, Option.map_eq_some_iff] at h
  obtain ⟨v, h1, h2⟩ := h
  exact ⟨v, h1, h2.symm⟩

theorem xbuiltin_sound (r : Rel P B ι H w) {b : Builtin} {ts : Array TypeId} {ty : TypeId} {cs : Array Bool} {args args' : List Value} (ha : RVs ι args args') {v : Value} {H' : AHeap}
    (h : xbuiltin P b ts.toList args H = some (.val v H')) : GoodN P B ι H w v H' ((builtin b ts ty cs args'.toArray).run P w) := by
  unfold xbuiltin at h
  split at h
  · -- append
    obtain ⟨s', x', rfl, h1, h2⟩ := rvs_two ha
    obtain ⟨v0, H0, hh, e⟩ := both_inv h
    cases e
    clear h
    unfold xappend at hh
    split at hh
    · rename_i t tx hts
      split at hh
      · rename_i e hu
        simp only [Option.bind_eq_some_iff] at hh
        obtain ⟨z, hz, hk⟩ := hh
        have hts' : ts = #[t, tx] := by rw [← Array.toArray_toList (xs := ts), hts]
        subst hts'
        exact Good.next (app_sound r hu hz h1 h2 hk)
      · simp at hh
    · simp at hh
  · obtain ⟨x', rfl, h1⟩ := rvs_one ha
    obtain ⟨v0, hh, e⟩ := bare_inv h
    cases e
    obtain ⟨q1, q2⟩ := xlen_sound (w := w) (ty := ty) h1 hh
    rw [Array.toArray_toList] at q1
    exact Good.next' r ⟨v, q1, q2⟩
  · obtain ⟨d', s', rfl, h1, h2⟩ := rvs_two ha
    obtain ⟨v0, H0, hh, e⟩ := both_inv h
    cases e
    have := xcopy_sound (ty := ty) r h1 h2 hh
    rw [Array.toArray_toList] at this
    exact Good.next this
  · obtain ⟨x', rfl, h1⟩ := rvs_one ha
    obtain ⟨v0, H0, hh, e⟩ := both_inv h
    cases e
    have := xclear_sound (ty := ty) r h1 hh
    rw [Array.toArray_toList] at this
    exact Good.next this
  · obtain ⟨a', b', rfl, h1, h2⟩ := rvs_two ha
    cases h1
    cases h2
    simp at h
    obtain ⟨rfl, rfl⟩ := h
    refine Good.next' r ⟨_, ?_, .str _⟩
    simp [Builtin.min_, Builtin.min2, Op.stringOp, bl_toList, asBool]
  · obtain ⟨a', b', rfl, h1, h2⟩ := rvs_two ha
    cases h1
    cases h2
    simp at h
    obtain ⟨rfl, rfl⟩ := h
    refine Good.next' r ⟨_, ?_, .str _⟩
    simp [Builtin.max_, Builtin.max2, Op.stringOp, bl_toList, asBool]
  · split at h
    · rename_i hg
      obtain ⟨v0, hh, e⟩ := bare_inv h
      cases e
      obtain ⟨h1, h2⟩ := pvg_inv hh
      rw [rvs_gr hg ha]
      exact Good.next' r ⟨v, pv_run h1, gr_rel h2⟩
    · simp at h
  · split at h
    · rename_i hg
      obtain ⟨v0, hh, e⟩ := bare_inv h
      cases e
      obtain ⟨h1, h2⟩ := pvg_inv hh
      rw [rvs_gr hg ha]
      exact Good.next' r ⟨v, pv_run h1, gr_rel h2⟩
    · simp at h
  · obtain ⟨x', rfl, h1⟩ := rvs_one ha
    obtain ⟨v0, hh, e⟩ := bare_inv h
    cases e
    obtain ⟨q1, q2⟩ := xcap_sound (w := w) (ty := ty) h1 hh
    rw [Array.toArray_toList] at q1
    exact Good.next' r ⟨v, q1, q2⟩
  · simp at h

theorem noRow_spec {n : String} (h : noRow n = true) : Extern.allGenericRows.lookup n = none ∧ Extern.allTypedRows.lookup n = none ∧ Extern.allRows.lookup n = none ∧ Extern.allNextRows.lookup n = none := by
  unfold noRow at h
  simpa [and_assoc] using h

theorem look_cmp : Extern.allGenericRows.lookup "internal/bytealg.abigen_runtime_cmpstring" = none ∧ Extern.allTypedRows.lookup "internal/bytealg.abigen_runtime_cmpstring" = none ∧
    Extern.allRows.lookup "internal/bytealg.abigen_runtime_cmpstring" = some Extern.BytealgCompare.compare ∧ Extern.allNextRows.lookup "internal/bytealg.abigen_runtime_cmpstring" = none := by
  refine ⟨?_, ?_, ?_, ?_⟩ <;> kernel_rfl

theorem look_ovl : Extern.allGenericRows.lookup "slices.overlaps" = none ∧ Extern.allTypedRows.lookup "slices.overlaps" = some Extern.SlicesOverlaps.overlaps ∧ Extern.allNextRows.lookup "slices.overlaps" = none := by
  refine ⟨?_, ?_, ?_⟩ <;> kernel_rfl

theorem look_empty : Extern.allNextRows.lookup "" = none := by kernel_rfl

theorem xext_sound {g : FuncId} {fn : Func} (hfn : P.funcs[g]? = some fn) (hname : fn.name ≠ "runtime.NumGoroutine") (hb : fn.body.isSome = false) (r : Rel P B ι H w) {args args' : List Value} (ha : RVs ι args args') {v : Value}
    (h : xext P fn args H = some v) : ∃ v', RV ι v v' ∧ (callFunc g args'.toArray).run P w = .ok (.value v') w := by
  have hbn : fn.body.isNone = true := by cases hq : fn.body <;> simp_all
  have hname' : (fn.name == "runtime.NumGoroutine") = false := by simpa using hname
  unfold xext at h
  split at h
  · rename_i a b
    split at h
    · rename_i hn
      simp at h
      subst h
      cases ha with | cons h1 t => cases t with | cons h2 t => cases t with | nil =>
        cases h1
        cases h2
        refine ⟨_, .int _ _, ?_⟩
        obtain ⟨l1, l2, l3, l4⟩ := look_cmp
        rw [run_callFunc_extern hfn hname' hbn (by unfold Extern.findNext; simp [hn.1, hn.2, l4, look_empty]) (e := Extern.BytealgCompare.compare) (by unfold Extern.find; simp [hn.1, l1, l2, l3]), Lib.run_compareString]
        rfl
    · simp at h
  · rename_i b o la cp b' o' lb cp'
    split at h
    · rename_i hn
      split at h
      · rename_i xs e y ys e' rw' t t' hf1 hf2 hp
        split at h
        · rename_i el hu
          split at h
          · rename_i hc
            obtain ⟨hne, rfl, htl, hsz, hoff⟩ := hc
            simp at h
            subst h
            cases ha with | cons h1 tl => cases tl with | cons h2 tl => cases tl with | nil =>
              obtain ⟨n1, n2, n3, n4⟩ := noRow_spec hn.2.1
              obtain ⟨l1, l2, l3⟩ := look_ovl
              refine ⟨_, .bool false, ?_⟩
              have hfind : Extern.find fn = some (Extern.SlicesOverlaps.overlaps fn.params fn.resultTypes) := by
                unfold Extern.find
                simp [hn.1, n1, n2, n3, l1, l2]
              rw [run_callFunc_extern hfn hname' hbn (by unfold Extern.findNext; simp [hn.1, n4, l3]) hfind]
              obtain ⟨size, hsize⟩ := Option.isSome_iff_exists.1 hsz
              have key : ∀ (L M : Loc) (la ca lb cb x : Nat), ι b = some L → ι b' = some M →
                  (Extern.SlicesOverlaps.overlaps fn.params fn.resultTypes #[.slice (some ⟨L.cb, L.base + o, none⟩) la ca, .slice (some ⟨M.cb, x, none⟩) lb cb]).run P w = .ok (.bool false) w := by
                intro L M la ca lb cb x hL hM
                have hb1 := r.blk b L hL
                rw [hf1] at hb1
                obtain ⟨cs, e1, fr, g1, g2, g3, g4, g5⟩ := hb1
                obtain ⟨gB, rfl, gsz, gfr⟩ := g5 rfl
                have hb2 := r.blk b' M hM
                rw [hf2] at hb2
                obtain ⟨cs2, e2, fr2, k1, k2, k3, k4, k5⟩ := hb2
                have hcne : L.cb ≠ M.cb := r.inj _ _ L M hL hM hne (by rw [hf1]; rfl) (by rw [hf2]; rfl)
                rw [show fn.params = #[t, t] from Array.ext' hp]
                have hov := Lib.run_overlaps_apart (P := P) w t 0 el hu size (fun w => sizeQ_run hsize w) ⟨L.cb, L.base + o, none⟩ ⟨M.cb, x, none⟩ la ca lb cb hcne e1 e2 cs.size cs2.size
                  (by simp [World.shape?, g1]) (by simp [World.shape?, k1]) (by simp at k3; omega)
                  (by
                    simp only [World.frozen?, g1]
                    have := gfr (L.base + o) (by omega)
                    simpa using this)
                  (by
                    simp only [World.frozen?, g1]
                    have := gfr cs.size (by omega)
                    simpa using this)
                exact hov
              have k1 := h1
              have k2 := h2
              cases h1 with
              | sle hL _ =>
                cases h2 with
                | sle hM _ => rw [key _ _ _ _ _ _ _ hL hM]; rfl
                | sli hM _ _ _ => rw [key _ _ _ _ _ _ _ hL hM]; rfl
                | sl0 _ => exact absurd rfl hn.2.2.2
              | sli hL _ _ _ =>
                cases h2 with
                | sle hM _ => rw [key _ _ _ _ _ _ _ hL hM]; rfl
                | sli hM _ _ _ => rw [key _ _ _ _ _ _ _ hL hM]; rfl
                | sl0 _ => exact absurd rfl hn.2.2.2
              | sl0 _ => exact absurd rfl hn.2.2.1
          · simp at h
        · simp at h
      · simp at h
    · simp at h
  · simp at h

/-- A call of a value: of a Go function. -/
theorem xcall_enter {f f' : Value} {args args' : List Value} (hf : RV ι f f') (ha : RVs ι args args') {g : FuncId} {as : List Value} (h : xcall P f args H = some (.enter g as)) :
    ∃ as', RVs ι as as' ∧ (do let d ← Deferred.ofValue f' args'.toArray; invoke d.target d.args : Sem Next).run P w = .ok (.enter g as'.toArray) w := by
  unfold xcall at h
  split at h
  · rename_i g x c
    cases hf with
    | func h1 h2 h3 h4 =>
      rename_i x' c'
      split at h
      · rename_i fn hfn
        split at h
        · simp at h
        · rename_i hnm
          split at h
          · rename_i hb
            simp at h
            obtain ⟨rfl, rfl⟩ := h
            refine ⟨x'.toList ++ args' ++ c'.toList, by simpa using ((RVs.of_arr h1 h2).append ha).append (RVs.of_arr h3 h4), ?_⟩
            have hnone : fn.body.isNone = false := by
              cases hq : fn.body <;> simp_all
            have hname : (fn.name == "runtime.NumGoroutine") = false := by simpa using hnm
            have harr : x' ++ (args'.toArray ++ c') = (x'.toList ++ args' ++ c'.toList).toArray := by apply Array.ext'; simp
            simp only [Deferred.ofValue, Sem.run_bind, Sem.run_pure, Result.andThen_ok, invoke, callFunc, run_program, hfn, hname, hnone, Bool.false_eq_true, if_false, Array.append_assoc, harr]
          · unfold bare at h; simp at h
      · simp at h
  · simp at h

/-- .. of an entry of the model's own. -/
theorem xcall_val {f f' : Value} {args args' : List Value} (r : Rel P B ι H w) (hf : RV ι f f') (ha : RVs ι args args') {v : Value} {H' : AHeap} (h : xcall P f args H = some (.val v H')) :
    H' = H ∧ ∃ v', RV ι v v' ∧ (do let d ← Deferred.ofValue f' args'.toArray; invoke d.target d.args : Sem Next).run P w = .ok (.value v') w := by
  unfold xcall at h
  split at h
  · rename_i g x c
    cases hf with
    | func h1 h2 h3 h4 =>
      rename_i x' c'
      split at h
      · rename_i fn hfn
        split at h
        · simp at h
        · rename_i hnm
          split at h
          · simp at h
          · rename_i hb
            unfold bare at h
            simp only [Option.map_eq_some_iff] at h
            obtain ⟨u, hu, hv⟩ := h
            cases hv
            refine ⟨rfl, ?_⟩
            have hargs : RVs ι (x.toList ++ args ++ c.toList) (x'.toList ++ args' ++ c'.toList) := ((RVs.of_arr h1 h2).append ha).append (RVs.of_arr h3 h4)
            obtain ⟨v', k1, k2⟩ := xext_sound hfn hnm (by simpa using hb) r hargs hu
            refine ⟨v', k1, ?_⟩
            have harr : x' ++ (args'.toArray ++ c') = (x'.toList ++ args' ++ c'.toList).toArray := by apply Array.ext'; simp
            simp only [Deferred.ofValue, Sem.run_bind, Sem.run_pure, Result.andThen_ok, invoke, Array.append_assoc, harr]
            exact k2
      · simp at h
  · simp at h

/-- ANY OPERATION that gives a value. -/
theorem dOp_val (r : Rel P B ι H w) {ρ ρ' : Operand → Value} (hρ : ∀ x, RV ι (ρ x) (ρ' x)) {o : Oper} {v : Value} {H' : AHeap} (h : dOp P ρ o.op H = some (.val v H')) :
    GoodN P B ι H w v H' ((execOp ρ' o).run P w) := by
  unfold execOp
  cases ho : o.op with
  | move x => rw [ho] at h; simp [dOp] at h; obtain ⟨rfl, rfl⟩ := h; exact ⟨ι, _, _, w, rfl, rfl, hρ x, r, Stp.refl _ _ _ r.dom⟩
  | assign x => rw [ho] at h; simp [dOp] at h; obtain ⟨rfl, rfl⟩ := h; exact ⟨ι, _, _, w, rfl, rfl, hρ x, r, Stp.refl _ _ _ r.dom⟩
  | pick c a b =>
    rw [ho] at h
    simp only [dOp] at h
    split at h
    · rename_i t hc
      have := hρ c
      rw [hc] at this
      simp at h
      obtain ⟨rfl, rfl⟩ := h
      generalize hq : ρ' c = q at this
      cases this
      refine ⟨ι, .value (if t then ρ' a else ρ' b), _, w, by simp [hq, asBool], rfl, ?_, r, Stp.refl _ _ _ r.dom⟩
      cases t
      · exact hρ b
      · exact hρ a
    · simp at h
  | alloc t => rw [ho] at h; obtain ⟨v0, H0, hh, e⟩ := both_inv h; cases e; exact Good.next (xalloc_sound r hh)
  | box t x => rw [ho] at h; obtain ⟨v0, H0, hh, e⟩ := both_inv h; cases e; exact Good.next (newv_sound r (hρ x) hh)
  | build t parts =>
    rw [ho] at h
    obtain ⟨v0, hh, e⟩ := bare_inv h
    cases e
    obtain ⟨v', h1, h2⟩ := xbuild_sound (w := w) (RP.map hρ) hh
    have harr : (parts.map fun (p : Nat × Operand) => (p.1, ρ' p.2)) = (parts.toList.map fun p => (p.1, ρ' p.2)).toArray := by apply Array.ext'; simp
    rw [← harr] at h1
    exact Good.next' r ⟨v', h1, h2⟩
  | buildSlice t len parts =>
    rw [ho] at h
    obtain ⟨v0, H0, hh, e⟩ := both_inv h
    cases e
    have := xbuildSlice_sound r (RP.map hρ) hh
    have harr : (parts.map fun (p : Nat × Operand) => (p.1, ρ' p.2)) = (parts.toList.map fun p => (p.1, ρ' p.2)).toArray := by apply Array.ext'; simp
    rw [← harr] at this
    exact Good.next this
  | load t a => rw [ho] at h; obtain ⟨v0, hh, e⟩ := bare_inv h; cases e; exact Good.next' r (xload_sound r (hρ a) hh)
  | store t a x =>
    rw [ho] at h
    obtain ⟨H0, hh, e⟩ := quiet_inv h
    cases e
    obtain ⟨w', h1, h2, h3⟩ := xstore_sound r (hρ a) (hρ x) hh
    exact ⟨ι, .skip, undef, w', by simp [h1], rfl, undef_rel, h2, h3⟩
  | nilCheck x =>
    rw [ho] at h
    obtain ⟨v0, hh, e⟩ := bare_inv h
    cases e
    clear h
    have hx := hρ x
    unfold xnilCheck at hh
    split at hh
    · rename_i a hx'
      rw [hx'] at hx
      simp at hh
      subst hh
      generalize hq : ρ' x = q at hx
      cases hx with
      | ptr hb => exact ⟨ι, .value _, _, w, by simp [hq], rfl, .ptr hb, r, Stp.refl _ _ _ r.dom⟩
    · rename_i f c1 c2 hx'
      rw [hx'] at hx
      simp at hh
      subst hh
      generalize hq : ρ' x = q at hx
      cases hx with
      | func h1 h2 h3 h4 => exact ⟨ι, .value _, _, w, by simp [hq], rfl, .func h1 h2 h3 h4, r, Stp.refl _ _ _ r.dom⟩
    · simp at hh
  | binOp op t x y yt => rw [ho] at h; obtain ⟨v0, hh, e⟩ := bare_inv h; cases e; exact Good.next' r (xbin_sound (hρ x) (hρ y) hh)
  | unOp op t x => rw [ho] at h; obtain ⟨v0, hh, e⟩ := bare_inv h; cases e; exact Good.next' r (xun_sound (hρ x) hh)
  | convert src dst x => rw [ho] at h; obtain ⟨v0, H0, hh, e⟩ := both_inv h; cases e; exact Good.next (xconv_sound r (hρ x) hh)
  | makeInterface t x =>
    rw [ho] at h
    simp only [dOp] at h
    cases hu : P.underlying t with
    | none => simp [hu] at h
    | some d =>
      have key : (∀ ms, d ≠ .interface ms) → GoodN P B ι H w (.iface t (ρ x)) H ((do pure (Next.value (← Instr.makeInterface t (ρ' x))) : Sem Next).run P w) := by
        intro hd
        refine Good.next' r ⟨.iface t (ρ' x), ?_, .iface (hρ x)⟩
        cases d <;> first | (exact absurd rfl (hd _)) | simp [Instr.makeInterface, run_under hu]
      cases d <;> simp [hu] at h <;> (obtain ⟨rfl, rfl⟩ := h; exact key (by simp))
  | makeFunc fn x c =>
    rw [ho] at h
    cases fn with
    | func g =>
      simp [dOp] at h
      obtain ⟨rfl, rfl⟩ := h
      refine Good.next' r ⟨.func (.func g) (x.map ρ') (c.map ρ'), by simp [Instr.makeFunc], .func (by simp) (fun i a b ha hb => ?_) (by simp) (fun i a b ha hb => ?_)⟩
      · simp only [Array.getElem?_map, Option.map_eq_some_iff] at ha hb
        obtain ⟨p, hp, rfl⟩ := ha
        obtain ⟨q, hq, rfl⟩ := hb
        rw [hp] at hq
        cases hq
        exact hρ p
      · simp only [Array.getElem?_map, Option.map_eq_some_iff] at ha hb
        obtain ⟨p, hp, rfl⟩ := ha
        obtain ⟨q, hq, rfl⟩ := hb
        rw [hp] at hq
        cases hq
        exact hρ p
    | _ => simp [dOp] at h
  | makeSlice t l c => rw [ho] at h; obtain ⟨v0, H0, hh, e⟩ := both_inv h; cases e; exact Good.next (xmakeSlice_sound r (hρ l) (hρ c) hh)
  | slice t x lo hi mx => rw [ho] at h; obtain ⟨v0, hh, e⟩ := bare_inv h; cases e; exact Good.next' r (xslice_sound r (hρ x) (RO.map hρ) (RO.map hρ) (RO.map hρ) hh)
  | fieldAddr t x f => rw [ho] at h; obtain ⟨v0, hh, e⟩ := bare_inv h; cases e; exact Good.next' r (xfieldAddr_sound (hρ x) hh)
  | field t x f => rw [ho] at h; obtain ⟨v0, hh, e⟩ := bare_inv h; cases e; exact Good.next' r (xfield_sound (hρ x) hh)
  | indexAddr t x i => rw [ho] at h; obtain ⟨v0, hh, e⟩ := bare_inv h; cases e; exact Good.next' r (xindexAddr_sound (hρ x) (hρ i) hh)
  | index t x i => rw [ho] at h; obtain ⟨v0, hh, e⟩ := bare_inv h; cases e; exact Good.next' r (xindex_sound (hρ x) (hρ i) hh)
  | extract x i => rw [ho] at h; obtain ⟨v0, hh, e⟩ := bare_inv h; cases e; exact Good.next' r (xextract_sound (hρ x) hh)
  | call c =>
    rw [ho] at h
    simp only [dOp] at h
    have hargs : RVs ι (c.args.toList.map ρ) (c.args.toList.map ρ') := RVs.map fun x _ => hρ x
    have harr : c.args.map ρ' = (c.args.toList.map ρ').toArray := by apply Array.ext'; simp
    split at h
    · rename_i b hcal
      have := fun cs => xbuiltin_sound (ty := o.type) (cs := cs) r hargs h
      simp only [resolve, hcal, Sem.run_bind, Sem.run_pure, Result.andThen_ok, invoke, harr]
      exact this _
    · rename_i f hcal
      obtain ⟨rfl, v', h1, h2⟩ := xcall_val r (hρ f) hargs h
      refine ⟨ι, .value v', v', w, ?_, rfl, h1, r, Stp.refl _ _ _ r.dom⟩
      simpa [resolve, hcal, harr] using h2
    · simp at h
  | _ => rw [ho] at h; simp [dOp] at h

/-- ANY OPERATION that calls a Go function. -/
theorem dOp_enter {ρ ρ' : Operand → Value} (hρ : ∀ x, RV ι (ρ x) (ρ' x)) {o : Oper} {f : FuncId} {args : List Value} (h : dOp P ρ o.op H = some (.enter f args)) :
    ∃ args', RVs ι args args' ∧ (execOp ρ' o).run P w = .ok (.enter f args'.toArray) w := by
  unfold execOp
  cases ho : o.op with
  | call c =>
    rw [ho] at h
    simp only [dOp] at h
    have hargs : RVs ι (c.args.toList.map ρ) (c.args.toList.map ρ') := RVs.map fun x _ => hρ x
    have harr : c.args.map ρ' = (c.args.toList.map ρ').toArray := by apply Array.ext'; simp
    split at h
    · rename_i b hcal
      exfalso
      unfold xbuiltin at h
      split at h <;> first
        | (simp [both, bare] at h; done)
        | (split at h <;> simp [bare] at h; done)
        | simp at h
    · rename_i f' hcal
      obtain ⟨as', h1, h2⟩ := xcall_enter (w := w) (hρ f') hargs h
      refine ⟨as', h1, ?_⟩
      simpa [resolve, hcal, harr] using h2
    · simp at h
  | pick c a b => rw [ho] at h; simp only [dOp] at h; split at h <;> simp at h
  | makeFunc fn x c => rw [ho] at h; cases fn <;> simp [dOp] at h
  | makeInterface t x => rw [ho] at h; simp only [dOp] at h; split at h <;> simp at h
  | _ => rw [ho] at h; simp [dOp, bare, both, quiet] at h

end Go.Proofs.Ytlagijfkkpbbnaa.Eng
