/-
  The engine, part 4: what an operation does on the abstract heap, it does in the model's world: values, slices, append, copy, calls.
  Conditions: none. By an AI agent.
-/
import Derived.Test.YtlagijfkkpbbnaaEng3
import Derived.Deep.AppendSrc
namespace Go.Proofs.Ytlagijfkkpbbnaa.Eng
open Go

variable {P : Program} {B : Nat} {ι : Emb} {H : AHeap} {w : World}

theorem pvg_inv {s : Sem Value} {v : Value} (h : pvg P s = some v) : pv P s = some v ∧ gr 9 v = true := by
  unfold pvg at h
  split at h
  · rename_i u hu
    split at h
    · simp at h; subst h; exact ⟨hu, by assumption⟩
    · simp at h
  · simp at h

theorem run_under {t : TypeId} {d : TypeDesc} (h : P.underlying t = some d) : (underlying t).run P w = .ok d w := run_underlying h w

theorem mk_bl (s : ByteArray) : mk (bl s) = s := by cases s; rfl
@[simp] theorem bl_mk (l : List UInt8) : bl (mk l) = l := by simp [mk, bl]
theorem bl_size (s : ByteArray) : (bl s).length = s.size := by show s.data.toList.length = s.data.size; exact Array.length_toList
theorem bl_toList (s : ByteArray) : s.toList = bl s := ByteArray.toList_eq s
theorem bl_append (a b : ByteArray) : bl (a ++ b) = bl a ++ bl b := by simp [bl]
theorem bl_inj {a b : ByteArray} (h : bl a = bl b) : a = b := by rw [← mk_bl a, ← mk_bl b, h]

/-! ### Numbers, strings, tests -/

theorem strOp_sound {op : BinOp} {a b : ByteArray} {v : Value} (h : strOp op a b = some v) (t : TypeId) (ox oy : Operand) :
    ((do eqGuard op t ox oy (.string a) (.string b); binOp op t (.string a) (.string b)) : Sem Value).run P w = .ok v w ∧ RV ι v v := by
  have hg : (eqGuard op t ox oy (.string a) (.string b)).run P w = .ok () w := by
    unfold eqGuard
    split <;> rfl
  cases op <;> simp only [strOp, reduceCtorEq] at h
  case add =>
    split at h
    · rename_i hl
      rw [bl_size, bl_size] at hl
      have hl' : ¬ ((a.size : Int) + (b.size : Int) > 9223372036854775807) := by omega
      simp at h
      subst h
      have e : mk (bl a ++ bl b) = a ++ b := by rw [← bl_append, mk_bl]
      rw [e]
      refine ⟨?_, .str _⟩
      have hm : IntKind.i64.max = 9223372036854775807 := by decide
      simp [hg, binOp, Op.stringOp, hm, hl']
    · simp at h
  all_goals
    simp at h
    subst h
    refine ⟨?_, .bool _⟩
    simp [hg, binOp, Op.stringOp, bl_toList]

theorem nilTest_sound {t : TypeId} {x y x' y' : Value} {b : Bool} (hx : RV ι x x') (hy : RV ι y y') (h : nilTest P t x y = some b) :
    (Op.equal t x' y').run P w = .ok b w ∧ ∀ op ox oy, (eqGuard op t ox oy x' y').run P w = .ok () w := by
  have key : ∀ {op ox oy}, (∀ a c, ¬ (x' = .agg a ∧ y' = .agg c)) → ¬ (x' = .nilIface ∧ y' = .nilIface) → (eqGuard op t ox oy x' y').run P w = .ok () w := by
    intro op ox oy h1 h2
    unfold eqGuard
    cases hop : !(op matches .eql | .neq) with
    | true => rfl
    | false =>
      simp only [Bool.false_eq_true, if_false]
      cases x' <;> cases y' <;> first
        | rfl
        | (exact absurd ⟨rfl, rfl⟩ h2)
        | (exact absurd ⟨rfl, rfl⟩ (h1 _ _))
  unfold nilTest at h
  split at h <;> first
    | (simp at h; done)
    | (cases hx <;> cases hy <;>
        (split at h
         · rename_i hu
           simp at h
           subst h
           refine ⟨?_, fun op ox oy => key (by simp) (by simp)⟩
           show (Op.equalIn (9999 + 1) t _ _).run P w = _
           unfold Op.equalIn
           simp [run_under hu]
         · simp at h))

theorem xbin_sound {op : BinOp} {t : TypeId} {ox oy : Operand} {x y x' y' v : Value} (hx : RV ι x x') (hy : RV ι y y') (h : xbin P op t ox oy x y = some v) :
    ∃ v', ((do eqGuard op t ox oy x' y'; binOp op t x' y') : Sem Value).run P w = .ok v' w ∧ RV ι v v' := by
  unfold xbin at h
  split at h
  · cases hx
    cases hy
    exact ⟨v, strOp_sound h t ox oy⟩
  · split at h
    · rename_i hg
      simp only [Bool.and_eq_true] at hg
      obtain ⟨h1, h2⟩ := pvg_inv h
      rw [gr_eq hg.1 hx, gr_eq hg.2 hy]
      exact ⟨v, pv_run h1, gr_rel h2⟩
    · split at h
      · simp only [Option.map_eq_some_iff] at h
        obtain ⟨b, hb, rfl⟩ := h
        obtain ⟨h1, h2⟩ := nilTest_sound (w := w) hx hy hb
        refine ⟨.bool b, ?_, .bool b⟩
        have : (binOp .eql t x' y').run P w = .ok (.bool b) w := by
          have e : binOp .eql t x' y' = (do pure (.bool (← Op.equal t x' y')) : Sem Value) := by
            unfold nilTest at hb
            split at hb <;> first | (simp at hb; done) | (cases hx <;> cases hy <;> rfl)
          rw [e]
          simp [h1]
        simp [h2, this]
      · simp only [Option.map_eq_some_iff] at h
        obtain ⟨b, hb, rfl⟩ := h
        obtain ⟨h1, h2⟩ := nilTest_sound (w := w) hx hy hb
        refine ⟨.bool !b, ?_, .bool _⟩
        have : (binOp .neq t x' y').run P w = .ok (.bool !b) w := by
          have e : binOp .neq t x' y' = (do pure (.bool (!(← Op.equal t x' y'))) : Sem Value) := by
            unfold nilTest at hb
            split at hb <;> first | (simp at hb; done) | (cases hx <;> cases hy <;> rfl)
          rw [e]
          simp [h1]
        simp [h2, this]
      · simp at h

theorem xun_sound {op : UnOp} {x x' v : Value} (hx : RV ι x x') (h : xun P op x = some v) : ∃ v', (Op.unary op x').run P w = .ok v' w ∧ RV ι v v' := by
  unfold xun at h
  split at h
  · rename_i hg
    obtain ⟨h1, h2⟩ := pvg_inv h
    rw [gr_eq hg hx]
    exact ⟨v, pv_run h1, gr_rel h2⟩
  · simp at h

/-! ### Parts -/

theorem sizeQ_run {t : TypeId} {n : Nat} (h : sizeQ P t = some n) (w : World) : (sizeOf t).run P w = .ok n w := by
  unfold sizeQ at h
  simp only [Option.map_eq_some_iff] at h
  obtain ⟨i, hi, rfl⟩ := h
  simp [sizeOf, typeInfo, hi]

theorem sizeQ_cells {t : TypeId} {n : Nat} (h : sizeQ P t = some n) : P.cellsOf t = n := by
  unfold sizeQ at h
  simp only [Option.map_eq_some_iff] at h
  obtain ⟨i, hi, rfl⟩ := h
  exact cellsOf_eq hi

theorem xpart_sound {t : TypeId} {x x' : Value} {off : Nat} {v : Value} (hx : RV ι x x')
    (h : xpart P t x off = some v) : ∃ cs' v', x' = .agg cs' ∧ (part t cs' off).run P w = .ok v' w ∧ RV ι v v' := by
  unfold xpart at h
  split at h
  · rename_i ht
    obtain ⟨i, hi⟩ := row_info ht
    unfold prtN at h
    split at h
    · cases hx with
      | agg h1 h2 =>
        rename_i cs cs'
        simp at h
        subst h
        refine ⟨cs', .agg (cs'.extract off (off + P.cellsOf t)), rfl, by simp [part, row_run ht, run_sizeOf' hi], .agg (by simp [h1]) fun j a b ha hb => ?_⟩
        simp only [Array.getElem?_extract] at ha hb
        split at ha
        · split at hb
          · exact h2 _ _ _ ha hb
          · simp at hb
        · simp at ha
    · simp at h
  · rename_i ht
    unfold prt1 at h
    split at h
    · cases hx with
      | agg h1 h2 =>
        rename_i cs cs'
        have hlt : off < cs.size := (Array.getElem?_eq_some_iff.1 h).1
        refine ⟨cs', cs'[off]'(by omega), rfl, ?_, h2 off _ _ h (Array.getElem?_eq_getElem _)⟩
        simp [part, row_run ht, Array.getElem?_eq_getElem (show off < cs'.size by omega)]
    · simp at h
  · simp at h

theorem xfield_sound {t : TypeId} {x x' v : Value} {f : Nat} (hx : RV ι x x') (h : xfield P t x f = some v) : ∃ v', (Instr.field t x' f).run P w = .ok v' w ∧ RV ι v v' := by
  unfold xfield at h
  split at h
  · rename_i fs hu
    split at h
    · rename_i fd hf
      obtain ⟨cs', v', rfl, hv, hr⟩ := xpart_sound (w := w) hx h
      exact ⟨v', by simp [Instr.field, run_under hu, hf, asAgg, hv], hr⟩
    · simp at h
  · simp at h

theorem xextract_sound {x x' v : Value} {i : Nat} (hx : RV ι x x') (h : xextract x i = some v) : ∃ v', (Instr.extract x' i).run P w = .ok v' w ∧ RV ι v v' := by
  unfold xextract at h
  split at h
  · cases hx with
    | tup h1 h2 =>
      rename_i x'
      have hlt := (Array.getElem?_eq_some_iff.1 h).1
      have hlt' : i < x'.size := by omega
      refine ⟨x'[i], ?_, h2 i _ _ h (Array.getElem?_eq_getElem hlt')⟩
      simp [Instr.extract, Array.getElem?_eq_getElem hlt']
  · simp at h

theorem xfieldAddr_sound {t : TypeId} {x x' v : Value} {f : Nat} (hx : RV ι x x') (h : xfieldAddr P t x f = some v) : ∃ v', (Instr.fieldAt t x' f).run P w = .ok v' w ∧ RV ι v v' := by
  unfold xfieldAddr at h
  split at h
  · rename_i fs hu
    split at h
    · rename_i fd hf
      split at h
      · simp at h
      · rename_i hz
        unfold fad at h
        split at h
        · cases hx with
          | ptr hb =>
            rename_i b o L
            simp at h
            subst h
            cases hi : P.info? fd.type with
            | none => simp [Program.cellsOf, hi] at hz
            | some i =>
              have hs : (sizeOf fd.type).run P w = .ok (P.cellsOf fd.type) w := run_sizeOf' hi
              exact ⟨.pointer (some ⟨L.cb, L.base + o + fd.offset, none⟩), by simp [Instr.fieldAt, run_under hu, hf, Instr.sureAddr, fieldPlace, hs, hz], by rw [Nat.add_assoc]; exact .ptr hb⟩
        · simp at h
    · simp at h
  · simp at h

theorem xindexAddr_sound {t : TypeId} {x x' i i' v : Value} (hx : RV ι x x') (hi : RV ι i i') (h : xindexAddr P t x i = some v) : ∃ v', (Instr.indexAt t x' i').run P w = .ok v' w ∧ RV ι v v' := by
  unfold xindexAddr at h
  split at h
  · rename_i e hu
    simp only [Option.bind_eq_some_iff] at h
    obtain ⟨sz, hsz, h⟩ := h
    have hs := sizeQ_run hsz w
    unfold ixS at h
    split at h
    · rename_i b o len code k n
      cases hi
      split at h
      · rename_i hn
        simp at h
        subst h
        cases hx with
        | sle hb hc => rename_i c L; exact ⟨.pointer (some ⟨L.cb, L.base + o + n.toNat * sz, none⟩), by simp [Instr.indexAt, asIntOf, run_under hu, hn, hs], by rw [Nat.add_assoc]; exact .ptr hb⟩
        | sli hb hc hn' ht => rename_i c cc L; exact ⟨.pointer (some ⟨L.cb, L.base + o + n.toNat * sz, none⟩), by simp [Instr.indexAt, asIntOf, run_under hu, hn, hs], by rw [Nat.add_assoc]; exact .ptr hb⟩
        | sl0 hk => omega
      · simp at h
    · simp at h
  · rename_i m e hu
    simp only [Option.bind_eq_some_iff] at h
    obtain ⟨sz, hsz, h⟩ := h
    have hs := sizeQ_run hsz w
    unfold ixA at h
    split at h
    · rename_i b o k n
      cases hi
      split at h
      · rename_i hn
        simp at h
        subst h
        cases hx with
        | ptr hb => rename_i L; exact ⟨.pointer (some ⟨L.cb, L.base + o + n.toNat * sz, none⟩), by simp [Instr.indexAt, asIntOf, Instr.sureAddr, run_under hu, hn, hs], by rw [Nat.add_assoc]; exact .ptr hb⟩
      · simp at h
    · simp at h
  · simp at h

theorem xindex_sound {t : TypeId} {x x' i i' v : Value} (hx : RV ι x x') (hi : RV ι i i') (h : xindex P t x i = some v) : ∃ v', (Instr.index t x' i').run P w = .ok v' w ∧ RV ι v v' := by
  unfold xindex at h
  split at h
  · rename_i len e k n hu
    cases hi
    simp only [Option.bind_eq_some_iff] at h
    obtain ⟨sz, hsz, h⟩ := h
    have hs := sizeQ_run hsz w
    split at h
    · rename_i hn
      obtain ⟨cs', v', rfl, hv, hr⟩ := xpart_sound (w := w) hx h
      exact ⟨v', by simp [Instr.index, asIntOf, run_under hu, hn, hs, hv], hr⟩
    · simp at h
  · rename_i k n hu
    cases hi
    split at h
    · rename_i s
      cases hx
      split at h
      · rename_i hn
        simp only [Option.map_eq_some_iff] at h
        obtain ⟨b, hb, rfl⟩ := h
        have hb' : s[n.toNat]? = some b := by
          have hlt : n.toNat < s.size := by rw [← bl_size]; exact (List.getElem?_eq_some_iff.1 hb).1
          rw [getElem?_pos s n.toNat hlt]
          have h2 : (bl s)[n.toNat]? = some (s.data[n.toNat]'(show n.toNat < s.data.size from hlt)) := by simp [bl]
          rw [h2] at hb
          cases hb
          rfl
        exact ⟨byteCell b, by simp [Instr.index, asIntOf, run_under hu, hn, hb', byteCell], .int _ _⟩
      · simp at h
    · simp at h
  · simp at h

/-! ### Slices -/

theorem bnd_sound {y y' : Nat} (hy : y ≤ y') {v v' : Value} {n : Nat} (hv : RV ι v v') (h : bnd y v = some n) (code : BoundsCode) :
    (Instr.sliceBound v' y' code).run P w = .ok n w ∧ n ≤ y := by
  unfold bnd at h
  split at h
  · cases hv
    rename_i k i
    split at h
    · rename_i hi
      simp at h
      subst h
      have h2 : 0 ≤ i ∧ i ≤ (y' : Int) := by omega
      refine ⟨?_, by omega⟩
      unfold Instr.sliceBound
      simp [asIntOf, h2]
    · simp at h
  · simp at h

/-- Optional operands, one by one. -/
inductive RO (ι : Emb) : Option Value → Option Value → Prop
  | none : RO ι none none
  | some {v v' : Value} (h : RV ι v v') : RO ι (some v) (some v')

theorem lowOf_sound {h0 : Nat} {v v' : Option Value} {n : Nat} (hv : RO ι v v') (h : lowOf h0 v = some n) (code : BoundsCode) :
    n ≤ h0 ∧ (match v' with | some v => Instr.sliceBound v h0 code | none => (pure 0 : Sem Nat)).run P w = .ok n w := by
  cases hv with
  | none => simp [lowOf] at h; subst h; exact ⟨Nat.zero_le _, rfl⟩
  | some hv =>
    obtain ⟨h1, h2⟩ := bnd_sound (P := P) (w := w) (Nat.le_refl h0) hv h code
    exact ⟨h2, h1⟩

theorem bounds2 {len cap y : Nat} (hy : y ≤ cap) (isSlice : Bool) {lo lo' hi hi' : Option Value} (hlo : RO ι lo lo') (hhi : RO ι hi hi') {h l : Nat}
    (hh : highOf y len hi = some h) (hl : lowOf h lo = some l) :
    (Instr.sliceBounds isSlice len cap lo' hi' none).run P w = .ok (l, h, cap) w ∧ l ≤ h := by
  obtain ⟨h1, h2⟩ := lowOf_sound (P := P) (w := w) hlo hl .sliceB
  refine ⟨?_, h1⟩
  cases hhi with
  | none =>
    simp [highOf] at hh
    subst hh
    cases hlo with
    | none => simp at h2; simp [Instr.sliceBounds, h2]
    | some hv => simp at h2; simp [Instr.sliceBounds, h2]
  | some hv =>
    obtain ⟨h3, _⟩ := bnd_sound (P := P) (w := w) hy hv hh (if isSlice then .sliceAcap else .sliceAlen)
    cases hlo with
    | none => simp at h2; simp [Instr.sliceBounds, h2, h3]
    | some hv => simp at h2; simp [Instr.sliceBounds, h2, h3]

theorem bounds3 {len cap y : Nat} (hy : y ≤ cap) {lo lo' : Option Value} {hi hi' mx mx' : Value} (hlo : RO ι lo lo') (hhi : RV ι hi hi') (hmx : RV ι mx mx') {m h l : Nat}
    (hm : bnd y mx = some m) (hh : bnd m hi = some h) (hl : lowOf h lo = some l) :
    (Instr.sliceBounds true len cap lo' (some hi') (some mx')).run P w = .ok (l, h, m) w ∧ l ≤ h ∧ h ≤ m ∧ m ≤ y := by
  obtain ⟨h1, h2⟩ := lowOf_sound (P := P) (w := w) hlo hl .slice3C
  obtain ⟨h3, h4⟩ := bnd_sound (P := P) (w := w) (Nat.le_refl m) hhi hh .slice3B
  obtain ⟨h5, h6⟩ := bnd_sound (P := P) (w := w) hy hmx hm .slice3Acap
  refine ⟨?_, h1, h4, h6⟩
  cases hlo with
  | none => simp at h2; simp [Instr.sliceBounds, h2, h3, h5]
  | some hv => simp at h2; simp [Instr.sliceBounds, h2, h3, h5]

theorem Rel.rowSz (r : Rel P B ι H w) {b : Nat} {L : Loc} (hb : ι b = some L) {e : TypeId} (h : rowOf e (H.f b) = true) : L.sz = P.cellsOf e := by
  have hk := r.blk b L hb
  cases hq : H.f b with
  | cells xs e' rw =>
    rw [hq] at hk h
    cases rw with
    | false => simp [rowOf] at h
    | true =>
      simp [rowOf] at h
      subst h
      obtain ⟨_, _, _, _, _, _, _, h5⟩ := hk
      exact (h5 rfl).2.2.1
  | _ => rw [hq] at h; simp [rowOf] at h

theorem slS_sound (r : Rel P B ι H w) {t e : TypeId} (hu : P.underlying t = some (.slice e)) {sz : Nat} (hz : sizeQ P e = some sz) {x x' v : Value} {lo lo' hi hi' mx mx' : Option Value}
    (hx : RV ι x x') (hlo : RO ι lo lo') (hhi : RO ι hi hi') (hmx : RO ι mx mx') (h : slS e sz x lo hi mx H = some v) :
    ∃ v', (Instr.sliceAt t x' lo' hi' mx').run P w = .ok v' w ∧ RV ι v v' := by
  have hs := sizeQ_run hz w
  unfold slS at h
  split at h
  · rename_i b o len code
    simp only at h
    cases hmx with
    | some hm =>
      cases hhi with
      | none => simp at h
      | some hh =>
        simp only [Option.bind_eq_some_iff, Option.map_eq_some_iff] at h
        obtain ⟨m, hm', n, hn', l, hl', rfl⟩ := h
        cases hx with
        | sle hb hc =>
          rename_i c L
          obtain ⟨k1, k2, k3, k4⟩ := bounds3 (P := P) (w := w) (len := len) (show 2 * c / 2 ≤ c by omega) hlo hh hm hm' hn' hl'
          refine ⟨.slice (some ⟨L.cb, L.base + (if m = l then o else o + l * sz), none⟩) (n - l) (m - l), ?_, .sle hb (by omega)⟩
          by_cases hml : m = l
          · subst hml; simp [Instr.sliceAt, Instr.slice, run_under hu, k1, hs]
          · simp [Instr.sliceAt, Instr.slice, run_under hu, k1, hs, hml, Nat.add_assoc]
        | sli hb hc hn ht =>
          rename_i c cc L
          obtain ⟨k1, k2, k3, k4⟩ := bounds3 (P := P) (w := w) (len := len) (show (2 * c + 1) / 2 ≤ cc by omega) hlo hh hm hm' hn' hl'
          refine ⟨.slice (some ⟨L.cb, L.base + (if m = l then o else o + l * sz), none⟩) (n - l) (m - l), ?_, .sle hb (by omega)⟩
          by_cases hml : m = l
          · subst hml; simp [Instr.sliceAt, Instr.slice, run_under hu, k1, hs]
          · simp [Instr.sliceAt, Instr.slice, run_under hu, k1, hs, hml, Nat.add_assoc]
        | sl0 hk =>
          rename_i a'
          obtain ⟨k1, k2, k3, k4⟩ := bounds3 (P := P) (w := w) (len := 0) (show code / 2 ≤ 0 by omega) hlo hh hm hm' hn' hl'
          have e1 : m = 0 := by omega
          have e2 : l = 0 := by omega
          have e3 : n = 0 := by omega
          subst e1; subst e2; subst e3
          exact ⟨.slice (some a') 0 0, by simp [Instr.sliceAt, Instr.slice, run_under hu, k1, hs], .sl0 (by omega)⟩
    | none =>
      have h' : ((highOf (code / 2) len hi).bind fun h => (lowOf h lo).bind fun l =>
          if h ≤ code / 2 then (if code % 2 = 0 then some (Value.slice (some ⟨b, if code / 2 = l then o else o + l * sz, none⟩) (h - l) (2 * (code / 2 - l)))
          else if rowOf e (H.f b) then some (.slice (some ⟨b, o + l * sz, none⟩) (h - l) (2 * (code / 2 - l) + 1)) else none) else none) = some v := by
        cases hi <;> exact h
      clear h
      simp only [Option.bind_eq_some_iff] at h'
      obtain ⟨n, hn', l, hl', h⟩ := h'
      split at h
      · rename_i hnc
        cases hx with
        | sle hb hc =>
          rename_i c L
          obtain ⟨k1, k2⟩ := bounds2 (P := P) (w := w) (len := len) (show 2 * c / 2 ≤ c by omega) true hlo hhi hn' hl'
          have e2 : 2 * c / 2 = c := by omega
          have e3 : 2 * c % 2 = 0 := by omega
          simp only [e2, e3, if_true] at h hnc
          simp at h
          subst h
          refine ⟨.slice (some ⟨L.cb, L.base + (if c = l then o else o + l * sz), none⟩) (n - l) (c - l), ?_, .sle hb (by omega)⟩
          by_cases hml : c = l
          · subst hml; simp [Instr.sliceAt, Instr.slice, run_under hu, k1, hs]
          · simp [Instr.sliceAt, Instr.slice, run_under hu, k1, hs, hml, Nat.add_assoc]
        | sli hb hc hn ht =>
          rename_i c cc L
          obtain ⟨k1, k2⟩ := bounds2 (P := P) (w := w) (len := len) (show (2 * c + 1) / 2 ≤ cc by omega) true hlo hhi hn' hl'
          have e2 : (2 * c + 1) / 2 = c := by omega
          have e3 : ¬ ((2 * c + 1) % 2 = 0) := by omega
          simp only [e2, e3, if_false] at h hnc
          split at h
          · rename_i hrow
            simp at h
            subst h
            have hsz : L.sz = sz := by rw [r.rowSz hb hrow, sizeQ_cells hz]
            by_cases hml : cc = l
            · refine ⟨.slice (some ⟨L.cb, L.base + o, none⟩) (n - l) (cc - l), by subst hml; simp [Instr.sliceAt, Instr.slice, run_under hu, k1, hs], ?_⟩
              have e4 : n - l = 0 := by omega
              have e5 : cc - l = 0 := by omega
              have e6 : c - l = 0 := by omega
              rw [e4, e5, e6]
              exact .sl0 (by omega)
            · refine ⟨.slice (some ⟨L.cb, L.base + (o + l * sz), none⟩) (n - l) (cc - l), by simp [Instr.sliceAt, Instr.slice, run_under hu, k1, hs, hml, Nat.add_assoc], .sli hb (by omega) (by omega) ?_⟩
              have hle : l ≤ cc := by omega
              rw [hsz] at ht ⊢
              obtain ⟨d, rfl⟩ := Nat.exists_eq_add_of_le hle
              rw [show l + d - l = d by omega]
              rw [Nat.add_mul] at ht
              omega
          · simp at h
        | sl0 hk =>
          rename_i a'
          have e2 : code / 2 = 0 := by omega
          obtain ⟨k1, k2⟩ := bounds2 (P := P) (w := w) (len := 0) (show code / 2 ≤ 0 by omega) true hlo hhi hn' hl'
          have e3 : n = 0 := by omega
          have e4 : l = 0 := by omega
          subst e3; subst e4
          refine ⟨.slice (some a') 0 0, by simp [Instr.sliceAt, Instr.slice, run_under hu, k1, hs], ?_⟩
          simp only [e2] at h
          split at h
          · simp at h; subst h; exact .sl0 (by omega)
          · split at h
            · simp at h; subst h; exact .sl0 (by omega)
            · simp at h
      · simp at h
  · cases hx
    cases hmx with
    | some hm =>
      cases hhi with
      | none => simp at h
      | some hh =>
        simp only [Option.bind_eq_some_iff, Option.map_eq_some_iff] at h
        obtain ⟨m, hm', n, hn', l, hl', rfl⟩ := h
        obtain ⟨k1, k2, k3, k4⟩ := bounds3 (P := P) (w := w) (len := 0) (Nat.le_refl 0) hlo hh hm hm' hn' hl'
        have e1 : m = 0 := by omega
        have e2 : l = 0 := by omega
        have e3 : n = 0 := by omega
        subst e1; subst e2; subst e3
        exact ⟨.slice none 0 0, by simp [Instr.sliceAt, Instr.slice, run_under hu, k1, hs], .nils⟩
    | none =>
      have h' : ((highOf 0 0 hi).bind fun h => (lowOf h lo).map fun _ => Value.slice none 0 0) = some v := by
        cases hi <;> exact h
      simp only [Option.bind_eq_some_iff, Option.map_eq_some_iff] at h'
      obtain ⟨n, hn', l, hl', rfl⟩ := h'
      obtain ⟨k1, k2⟩ := bounds2 (P := P) (w := w) (len := 0) (cap := 0) (Nat.le_refl 0) true hlo hhi hn' hl'
      have e3 : n = 0 := by
        cases hi with
        | none => simpa [highOf] using hn'.symm
        | some hv =>
          have hn2 : bnd 0 hv = some n := hn'
          unfold bnd at hn2
          split at hn2
          · split at hn2
            · simp at hn2; omega
            · simp at hn2
          · simp at hn2
      have e4 : l = 0 := by omega
      subst e3; subst e4
      exact ⟨.slice none 0 0, by simp [Instr.sliceAt, Instr.slice, run_under hu, k1, hs], .nils⟩
  · simp at h

theorem slA_sound {t e : TypeId} {n : Nat} (hu : P.underlying t = some (.array n e)) {sz : Nat} (hz : sizeQ P e = some sz) {x x' v : Value} {lo lo' hi hi' : Option Value}
    (hx : RV ι x x') (hlo : RO ι lo lo') (hhi : RO ι hi hi') (h : slA n sz x lo hi = some v) : ∃ v', (Instr.sliceAt t x' lo' hi' none).run P w = .ok v' w ∧ RV ι v v' := by
  have hs := sizeQ_run hz w
  unfold slA at h
  split at h
  · rename_i b o
    cases hx with
    | ptr hb =>
      rename_i L
      simp only [Option.bind_eq_some_iff, Option.map_eq_some_iff] at h
      obtain ⟨k, hk, l, hl, rfl⟩ := h
      have hkn : k ≤ n := by
        cases hi with
        | none => simp [highOf] at hk; omega
        | some hv =>
          have hk2 : bnd n hv = some k := hk
          unfold bnd at hk2
          split at hk2
          · split at hk2
            · simp at hk2; omega
            · simp at hk2
          · simp at hk2
      obtain ⟨k1, k2⟩ := bounds2 (P := P) (w := w) (len := n) (Nat.le_refl n) false hlo hhi hk hl
      refine ⟨.slice (some ⟨L.cb, L.base + (if n = l then o else o + l * sz), none⟩) (k - l) (n - l), ?_, .sle hb (by omega)⟩
      by_cases hml : n = l
      · subst hml; simp [Instr.sliceAt, Instr.sureAddr, run_under hu, k1, hs]
      · simp [Instr.sliceAt, Instr.sureAddr, run_under hu, k1, hs, hml, Nat.add_assoc]
  · simp at h

theorem extract_mk (s : ByteArray) (l h : Nat) : s.extract l h = mk (((bl s).take h).drop l) := by
  apply bl_inj
  simp [bl, mk, ByteArray.data_extract, List.drop_take]

theorem slT_sound {t : TypeId} (hu : P.underlying t = some .string) {x x' v : Value} {lo lo' hi hi' : Option Value}
    (hx : RV ι x x') (hlo : RO ι lo lo') (hhi : RO ι hi hi') (h : slT x lo hi = some v) : ∃ v', (Instr.sliceAt t x' lo' hi' none).run P w = .ok v' w ∧ RV ι v v' := by
  unfold slT at h
  split at h
  · rename_i s
    cases hx
    simp only [Option.bind_eq_some_iff, Option.map_eq_some_iff] at h
    obtain ⟨k, hk, l, hl, rfl⟩ := h
    rw [bl_size] at hk
    obtain ⟨k1, k2⟩ := bounds2 (P := P) (w := w) (len := s.size) (Nat.le_refl s.size) false hlo hhi hk hl
    refine ⟨.string (s.extract l k), ?_, by rw [extract_mk]; exact .str _⟩
    simp [Instr.sliceAt, Instr.slice, run_under hu, k1]
  · simp at h

theorem xslice_sound (r : Rel P B ι H w) {t : TypeId} {x x' v : Value} {lo lo' hi hi' mx mx' : Option Value}
    (hx : RV ι x x') (hlo : RO ι lo lo') (hhi : RO ι hi hi') (hmx : RO ι mx mx') (h : xslice P t x lo hi mx H = some v) :
    ∃ v', (Instr.sliceAt t x' lo' hi' mx').run P w = .ok v' w ∧ RV ι v v' := by
  unfold xslice at h
  split at h
  · rename_i e hu
    simp only [Option.bind_eq_some_iff] at h
    obtain ⟨sz, hz, h⟩ := h
    exact slS_sound r hu hz hx hlo hhi hmx h
  · rename_i n e hu
    simp only [Option.bind_eq_some_iff] at h
    obtain ⟨sz, hz, h⟩ := h
    cases hmx with
    | none => exact slA_sound hu hz hx hlo hhi h
    | some => simp at h
  · rename_i hu
    cases hmx with
    | none => exact slT_sound hu hx hlo hhi h
    | some => simp at h
  · simp at h

end Go.Proofs.Ytlagijfkkpbbnaa.Eng
