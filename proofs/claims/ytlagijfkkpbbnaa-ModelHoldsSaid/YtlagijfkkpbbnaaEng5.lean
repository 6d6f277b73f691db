/-
  The engine, part 5: what an operation does on the abstract heap, it does in the model's world: structs, new slices, conversions, append, copy.
  Conditions: none. By an AI agent.
-/
import Derived.Test.YtlagijfkkpbbnaaEng4
import Derived.Laws.BytesString
import Derived.Lib.ConvBytes
namespace Go.Proofs.Ytlagijfkkpbbnaa.Eng
open Go
set_option linter.unusedVariables false
set_option linter.unusedSimpArgs false

variable {P : Program} {B : Nat} {ι : Emb} {H : AHeap} {w : World}

/-! ### Zero values -/

theorem zeros_length (z : List Value) : ∀ n, (zeros z n).length = n * z.length
  | 0 => by simp [zeros]
  | n + 1 => by simp [zeros, zeros_length z n, Nat.add_mul]; omega

theorem zeros_get (z : List Value) (hz : 0 < z.length) : ∀ n i, i < n * z.length → (zeros z n)[i]? = z[i % z.length]?
  | 0, i, h => by simp at h
  | n + 1, i, h => by
    simp only [zeros]
    by_cases hi : i < z.length
    · rw [List.getElem?_append_left hi, Nat.mod_eq_of_lt hi]
    · rw [List.getElem?_append_right (by omega), zeros_get z hz n (i - z.length) (by rw [Nat.add_mul] at h; omega), ← Nat.mod_eq_sub_mod (show i ≥ z.length by omega)]

theorem range_zeros (z : Array Value) (hz : 0 < z.size) (n : Nat) : (Array.range (n * z.size)).map (fun i => z[i % z.size]!) = (zeros z.toList n).toArray := by
  apply Array.ext
  · simp [zeros_length]
  · intro i h1 h2
    have hi : i < n * z.size := by simpa using h1
    have hm : i % z.size < z.size := Nat.mod_lt _ hz
    have hg := zeros_get z.toList (by simpa using hz) n i (by simpa using hi)
    have : (zeros z.toList n)[i]? = some z[i % z.size] := by rw [hg]; simp [hm]
    rw [List.getElem?_eq_some_iff] at this
    obtain ⟨h3, h4⟩ := this
    simp [h4, hm]

theorem zeroCells_eq (z : Array Value) (hz : 0 < z.size) (n : Nat) : Builtin.zeroCells z n = (zeros z.toList n).toArray := range_zeros z hz n

theorem zeros_rel {l l' : List Value} (h : RVs ι l l') : ∀ n, RVs ι (zeros l n) (zeros l' n)
  | 0 => .nil
  | n + 1 => h.append (zeros_rel h n)

theorem gr_cells {z : Value} (h : gr 9 z = true) : RVs ι z.cells.toList z.cells.toList := by
  have hr : RV ι z z := gr_rel h
  cases z with
  | agg cs => cases hr with | agg h1 h2 => exact RVs.of_arr h1 h2
  | _ => exact .cons hr .nil

theorem zrow_inv {e : TypeId} {z : List Value} (h : zrow P e = some z) :
    ∃ i zv, P.info? e = some i ∧ i.zero = some zv ∧ gr 9 zv = true ∧ zv.cells.toList = z ∧ z.length = i.size ∧ 0 < z.length := by
  unfold zrow at h
  split at h
  · rename_i i hi
    split at h
    · rename_i zv hz
      split at h
      · rename_i hg
        simp only [Bool.and_eq_true, beq_iff_eq, decide_eq_true_eq] at hg
        simp at h
        subst h
        exact ⟨i, zv, hi, hz, hg.1.1, rfl, by simpa using hg.1.2, by simp; omega⟩
      · simp at h
    · simp at h
  · simp at h

/-! ### Structs and arrays out of parts -/

/-- Arrays of values, one by one. -/
def RA (ι : Emb) (x x' : Array Value) : Prop := x.size = x'.size ∧ ∀ (i : Nat) (v v' : Value), x[i]? = some v → x'[i]? = some v' → RV ι v v'

theorem RA.set {x x' : Array Value} (h : RA ι x x') {v v' : Value} (hv : RV ι v v') (i : Nat) : RA ι (x.setIfInBounds i v) (x'.setIfInBounds i v') := by
  refine ⟨by simpa using h.1, fun j a b ha hb => ?_⟩
  by_cases hj : i = j
  · subst hj
    have hlt : i < x.size := by
      have := (Array.getElem?_eq_some_iff.1 ha).1
      simpa using this
    rw [Array.getElem?_setIfInBounds_self_of_lt hlt] at ha
    rw [Array.getElem?_setIfInBounds_self_of_lt (by have := h.1; omega)] at hb
    cases ha
    cases hb
    exact hv
  · rw [Array.getElem?_setIfInBounds_ne hj] at ha hb
    exact h.2 j a b ha hb

theorem RA.put {l l' : List Value} (hl : RVs ι l l') : ∀ (off k : Nat) {x x' : Array Value}, RA ι x x' →
    RA ι ((l.zipIdx k).foldl (fun cs (p : Value × Nat) => cs.setIfInBounds (off + p.2) p.1) x) ((l'.zipIdx k).foldl (fun cs (p : Value × Nat) => cs.setIfInBounds (off + p.2) p.1) x') := by
  induction hl with
  | nil => intro off k x x' h; simpa using h
  | cons hv _ ih => intro off k x x' h; simpa [List.zipIdx_cons] using ih off (k + 1) (h.set hv (off + k))

/-- Parts, one by one. -/
inductive RP (ι : Emb) : List (Nat × Value) → List (Nat × Value) → Prop
  | nil : RP ι [] []
  | cons {i : Nat} {v v' : Value} {l l' : List (Nat × Value)} (h : RV ι v v') (t : RP ι l l') : RP ι ((i, v) :: l) ((i, v') :: l')

theorem fill_sound (place : Nat → Option (Nat × Nat)) {parts parts' : List (Nat × Value)} (hp : RP ι parts parts') : ∀ {x x' out : Array Value}, RA ι x x' → fillX place x parts = some out →
    ∃ out', Instr.fill place x' parts' = some out' ∧ RA ι out out' := by
  induction hp with
  | nil => intro x x' out h ho; simp [fillX] at ho; subst ho; exact ⟨x', rfl, h⟩
  | @cons i v v' l l' hv _ ih =>
    intro x x' out h ho
    simp only [fillX] at ho
    split at ho
    · rename_i off size l1 hpl hf
      have hl := flat_sound hv hf
      have hlen := hl.length
      split at ho
      · simp at ho
      · rename_i hc
        obtain ⟨out', h1, h2⟩ := ih (RA.put hl off 0 h) ho
        refine ⟨out', ?_, h2⟩
        have hs : v'.cells.size = l1.length := by simpa using hlen.symm
        have hx := h.1
        simp only [Bool.or_eq_true, bne_iff_ne, ne_eq, decide_eq_true_eq] at hc
        simp only [Instr.fill, hpl, hs, ← hx]
        rw [if_neg (by simpa using hc)]
        have hz : (v'.cells.zipIdx.foldl (fun cs (p : Value × Nat) => cs.setIfInBounds (off + p.2) p.1) x') = (v'.cells.toList.zipIdx.foldl (fun cs (p : Value × Nat) => cs.setIfInBounds (off + p.2) p.1) x') := by
          rw [← Array.foldl_toList]
          simp
        show Instr.fill place (v'.cells.zipIdx.foldl (fun cs (p : Value × Nat) => cs.setIfInBounds (off + p.2) p.1) x') l' = some out'
        rw [hz]
        exact h1
    · simp at ho

theorem places_run : ∀ {fs : List Field} {pl : List (Nat × Nat)}, places P fs = some pl → (fs.mapM fun f => (do pure (f.offset, ← sizeOf f.type) : Sem (Nat × Nat))).run P w = .ok pl w
  | [], pl, h => by simp [places] at h; subst h; rfl
  | f :: fs, pl, h => by
    simp only [places] at h
    split at h
    · rename_i i hi
      simp only [Option.map_eq_some_iff] at h
      obtain ⟨l, hl, rfl⟩ := h
      have := places_run hl
      have hsz : (sizeOf f.type).run P w = .ok i.size w := by simp [sizeOf, typeInfo, hi]
      simp only [List.mapM_cons, Sem.run_bind, hsz, Result.andThen_ok, Sem.run_pure, this]
    · simp at h

theorem xbuild_sound {t : TypeId} {parts parts' : List (Nat × Value)} (hp : RP ι parts parts') {v : Value} (h : xbuild P t parts = some v) :
    ∃ v', (Instr.build t parts'.toArray).run P w = .ok v' w ∧ RV ι v v' := by
  unfold xbuild at h
  split at h
  · rename_i z fs hz hu
    obtain ⟨i, hi, hz', hg⟩ := zero_inv hz
    have hra : RA ι z z := by cases (gr_rel hg : RV ι (.agg z) (.agg z)) with | agg h1 h2 => exact ⟨h1, h2⟩
    simp only [Option.bind_eq_some_iff] at h
    obtain ⟨pl, hpl, h⟩ := h
    simp only [bldS, Option.map_eq_some_iff] at h
    obtain ⟨out, ho, rfl⟩ := h
    obtain ⟨out', h1, h2⟩ := fill_sound (pl[·]?) hp hra ho
    refine ⟨.agg out', ?_, .agg h2.1 h2.2⟩
    have hm : (fs.mapM fun f => (do pure (f.offset, ← sizeOf f.type) : Sem (Nat × Nat))).run P w = .ok pl.toArray w := by
      rw [Array.mapM_eq_mapM_toList]
      simp only [Sem.run_map, places_run hpl, Result.andThen_ok]
    have he : (fun x : Nat => pl.toArray[x]?) = (fun x : Nat => pl[x]?) := by funext x; simp
    simp only [Instr.build, zeroValue, typeInfo, Sem.run_bind, run_program, Result.andThen_ok, hi, Sem.run_pure, hz', run_under hu, hm, he, Value.cells, h1]
  · rename_i z n e hz hu
    obtain ⟨i, hi, hz', hg⟩ := zero_inv hz
    have hra : RA ι z z := by cases (gr_rel hg : RV ι (.agg z) (.agg z)) with | agg h1 h2 => exact ⟨h1, h2⟩
    simp only [Option.bind_eq_some_iff] at h
    obtain ⟨sz, hsz, h⟩ := h
    simp only [bldA, Option.map_eq_some_iff] at h
    obtain ⟨out, ho, rfl⟩ := h
    obtain ⟨out', h1, h2⟩ := fill_sound _ hp hra ho
    refine ⟨.agg out', ?_, .agg h2.1 h2.2⟩
    simp only [Instr.build, zeroValue, typeInfo, Sem.run_bind, run_program, Result.andThen_ok, hi, Sem.run_pure, hz', run_under hu, sizeQ_run hsz, Value.cells, h1]
  · simp at h

/-- A new slice, as many elements as it holds. -/
theorem Rel.newSlice (r : Rel P B ι H w) {e : TypeId} {l l' : List Value} (hl : RVs ι l l') {n c : Nat} (hn : n ≤ c) {x : Result Value}
    (hx : x = .ok (.slice (some ⟨w.heap.size, 0, none⟩) n c) (w.alloc (.cells l'.toArray e))) : Good P B ι H w (.slice (some ⟨H.n, 0, none⟩) n (2 * c)) (H.push (.cells l e true)) x := by
  have hb := RB.fresh (rest := []) r hl e
  simp only [List.append_nil] at hb
  obtain ⟨r', s'⟩ := r.push _ _ ⟨w.heap.size, 0, P.cellsOf e, l'.length⟩ rfl hb
  exact ⟨_, _, _, hx, .sle (b := H.n) (o := 0) (L := ⟨w.heap.size, 0, P.cellsOf e, l'.length⟩) (by simp [up]) hn, r', s'⟩

theorem xbuildSlice_sound (r : Rel P B ι H w) {t : TypeId} {len : Nat} {parts parts' : List (Nat × Value)} (hp : RP ι parts parts') {v : Value} {H' : AHeap} (h : xbuildSlice P t len parts H = some (v, H')) :
    Good P B ι H w v H' ((Instr.buildSlice t len parts'.toArray).run P w) := by
  unfold xbuildSlice at h
  split at h
  · rename_i e hu
    simp only [Option.bind_eq_some_iff] at h
    obtain ⟨z, hz, h⟩ := h
    obtain ⟨i, zv, hi, hz', hg, hzl, hsz, hpos⟩ := zrow_inv hz
    split at h
    · rename_i hle
      simp only [bldL, Option.map_eq_some_iff] at h
      obtain ⟨out, ho, h⟩ := h
      cases h
      have hcell : RVs ι z z := by rw [← hzl]; exact gr_cells hg
      have hra : RA ι (zeros z len).toArray (zeros z len).toArray := ⟨rfl, (zeros_rel hcell len).toArr⟩
      obtain ⟨out', h1, h2⟩ := fill_sound _ hp hra ho
      refine r.newSlice (l' := out'.toList) (RVs.of_arr h2.1 h2.2) (Nat.le_refl _) ?_
      have hsize : zv.cells.size = i.size := by rw [← hsz, ← hzl]; simp
      have hpos' : 0 < zv.cells.size := by rw [hsize, ← hsz]; exact hpos
      have hmap : (Array.range (len * i.size)).map (fun j => zv.cells[j % zv.cells.size]!) = (zeros z len).toArray := by
        rw [← hsize, range_zeros _ hpos', hzl]
      have hfill : Instr.fill (fun j => some (j * i.size, i.size)) (zeros z len).toArray parts' = some out' := by rw [← hsz]; exact h1
      have hle' : ¬ (16777216 < len * i.size) := by rw [← hsz]; simpa using hle
      unfold Instr.buildSlice
      simp only [Sem.run_bind, run_under hu, Result.andThen_ok, sizeOf, typeInfo, run_program, hi, Sem.run_pure]
      by_cases h0 : len * i.size = 0
      · have hl0 : len = 0 := by
          rcases Nat.mul_eq_zero.1 h0 with h | h
          · exact h
          · omega
        subst hl0
        simp [zeros] at hfill
        have hr0 : Array.range 0 = #[] := rfl
        simp [hfill, newRow, hr0]
      · simp [hle', h0, zeroValue, typeInfo, hi, hz', hmap, hfill, newRow]
    · simp at h
  · simp at h

theorem wrap_id {n : Int} (h0 : -9223372036854775808 ≤ n) (h1 : n ≤ 9223372036854775807) : IntKind.i64.wrap n = n := by
  unfold IntKind.wrap
  simp [IntKind.bits, IntKind.signed]
  split <;> omega

theorem xmakeSlice_sound (r : Rel P B ι H w) {t : TypeId} {l c l' c' : Value} (hl : RV ι l l') (hc : RV ι c c') {v : Value} {H' : AHeap} (h : xmakeSlice P t l c H = some (v, H')) :
    Good P B ι H w v H' ((Instr.makeSlice t l' c').run P w) := by
  unfold xmakeSlice at h
  split at h
  · rename_i e hu
    simp only [Option.bind_eq_some_iff] at h
    obtain ⟨z, hz, h⟩ := h
    obtain ⟨i, zv, hi, hz', hg, hzl, hsz, hpos⟩ := zrow_inv hz
    unfold mkS at h
    split at h
    · rename_i kl nl kc nc
      cases hl
      cases hc
      split at h
      · rename_i hb
        obtain ⟨b1, b2, b3, b4⟩ := hb
        simp at h
        obtain ⟨rfl, rfl⟩ := h
        have hcell : RVs ι z z := by rw [← hzl]; exact gr_cells hg
        refine r.newSlice (l' := zeros z nc.toNat) (zeros_rel hcell _) (by omega) ?_
        have hbytes : P.bytesOf e = i.bytes := by simp [Program.bytesOf, hi]
        have w1 : IntKind.i64.wrap nl = nl := wrap_id (by omega) (by omega)
        have w2 : IntKind.i64.wrap nc = nc := wrap_id (by omega) (by omega)
        have hsize : zv.cells.size = i.size := by rw [← hsz, ← hzl]; simp
        have hpos' : 0 < zv.cells.size := by rw [hsize, ← hsz]; exact hpos
        have hmap : (Array.range (nc.toNat * i.size)).map (fun j => zv.cells[j % zv.cells.size]!) = (zeros z nc.toNat).toArray := by
          rw [← hsize, range_zeros _ hpos', hzl]
        have t1 : ¬ (nc < 0) := by omega
        have t2 : ¬ ((i.bytes : Int) * nc > 281474976710656) := by rw [Int.mul_comm, ← hbytes]; omega
        have t3 : ¬ (nl < 0) := by omega
        have t4 : ¬ (nl > nc) := by omega
        unfold Instr.makeSlice
        simp only [Sem.run_bind, run_under hu, Result.andThen_ok, typeInfo, run_program, hi, Sem.run_pure, asInt, asIntOf, w1, w2]
        by_cases h0 : nc.toNat * i.size = 0
        · have hl0 : nc.toNat = 0 := by
            rcases Nat.mul_eq_zero.1 h0 with h | h
            · exact h
            · omega
          have hnc : nc = 0 := by omega
          subst hnc
          have hr0 : Array.range 0 = #[] := rfl
          simp [t3, t4, sizeOf, typeInfo, hi, zeros, newRow, hr0]
        · simp [t1, t2, t3, t4, sizeOf, zeroValue, typeInfo, hi, hz', h0, hmap, newRow]
      · simp at h
    · simp at h
  · simp at h

/-! ### Conversions -/

theorem bytes_rel (l : List UInt8) : RVs ι (l.map byteCell) (l.map byteCell) := by
  induction l with
  | nil => exact .nil
  | cons b l ih => exact .cons (.int _ _) ih

theorem bytesOf_sound : ∀ {l l' : List Value} {s : List UInt8}, RVs ι l l' → bytesOf l = some s → ∃ ns : List Int, l' = ns.map (Value.int .u8) ∧ s = ns.map fun n => UInt8.ofNat n.toNat
  | _, _, s, .nil, h => ⟨[], rfl, by simpa [bytesOf] using h.symm⟩
  | _, _, s, .cons hv hl, h => by
    cases hv with
    | int k n =>
      cases k with
      | u8 =>
        simp only [bytesOf, Option.map_eq_some_iff] at h
        obtain ⟨s', hs', rfl⟩ := h
        obtain ⟨ns, rfl, rfl⟩ := bytesOf_sound hl hs'
        exact ⟨n :: ns, rfl, rfl⟩
      | _ => simp [bytesOf] at h
    | _ => simp [bytesOf] at h

theorem foldl_push (ns : List Int) : ∀ (r : ByteArray), ns.foldl (fun r n => r.push (UInt8.ofNat n.toNat)) r = ⟨r.data ++ (ns.map fun n => UInt8.ofNat n.toNat).toArray⟩ := by
  induction ns with
  | nil => intro r; cases r; simp
  | cons n ns ih =>
    intro r
    rw [List.foldl_cons, ih]
    cases r
    congr 1
    apply Array.ext'
    simp [ByteArray.push]

theorem grown_le (w : World) (need old : Nat) (e : TypeId) : need ≤ grownCap w need old e := by
  simp [grownCap, Question.cut]

theorem xconv_sound (r : Rel P B ι H w) {src dst : TypeId} {x x' v : Value} {H' : AHeap} (hx : RV ι x x') (h : xconv P src dst x H = some (v, H')) :
    Good P B ι H w v H' ((convert src dst x').run P w) := by
  unfold xconv at h
  split at h
  · rename_i u e s hs hd
    cases hx
    split at h
    · rename_i he
      split at h
      · rename_i h1
        simp at h
        obtain ⟨rfl, rfl⟩ := h
        have hrun := Lib.run_convert_string_bytes w src dst e s hs hd he
        have hcells : (Lib.bytesCells w e s) = ((bl s).map byteCell ++ List.replicate (grownCap w s.size 0 e - s.size) (Value.int .u8 0)).toArray := by
          apply Array.ext'
          simp [Lib.bytesCells, bl, byteCell]
        have hge := grown_le w s.size 0 e
        have hsize : (Lib.bytesCells w e s).size = grownCap w s.size 0 e := by
          rw [hcells]
          simp [bl_size]
          omega
        have hk : RB P B ι (Lib.bytesWorld w e s) ⟨w.heap.size, 0, P.cellsOf e, grownCap w s.size 0 e⟩ (.cells ((bl s).map byteCell) e true) := by
          refine ⟨Lib.bytesCells w e s, e, _, Lib.bytesWorld_at_new w e s, hsize, by rw [hsize]; simp [bl_size]; omega, fun i v hv => ?_, fun _ => ⟨r.base, rfl, rfl, fun j hj => by have ht : tailQ P e = 0 := (by unfold tailQ; rw [he]); simp; omega⟩⟩
          obtain ⟨v', hv', hr⟩ := (bytes_rel (ι := ι) (bl s)).get hv
          refine ⟨v', ?_, hr⟩
          have hlt : i < ((bl s).map byteCell).length := (List.getElem?_eq_some_iff.1 hv').1
          rw [hcells]
          simp only [Nat.zero_add, List.getElem?_toArray]
          rw [List.getElem?_append_left hlt]
          exact hv'
        obtain ⟨r', s'⟩ := r.pushW _ _ rfl (Lib.bytesWorld_size w e s) hk (fun c hc => Lib.bytesWorld_at_old w e s c hc) rfl rfl rfl
        refine ⟨_, _, _, hrun, ?_, r', s'⟩
        rw [bl_size]
        exact .sli (b := H.n) (o := 0) (L := ⟨w.heap.size, 0, P.cellsOf e, grownCap w s.size 0 e⟩) (by simp [up]) hge hge (by simp [h1])
      · simp at h
    · simp at h
  · rename_i e b o n code hs hd
    split at h
    · rename_i he
      split at h
      · rename_i hn
        subst hn
        simp at h
        obtain ⟨rfl, rfl⟩ := h
        have key : ∀ (a : Addr) (c : Nat), x' = .slice (some a) 0 c → Good P B ι H w (.string .empty) H ((convert src dst x').run P w) := by
          intro a c e1
          subst e1
          refine Good.still r (.str _) ?_
          rw [run_convert_bytes_string w src dst e (some a) 0 c hs he hd]
          have := run_bytesToString (P := P) w a 0 c [] (by simp [loadCells, loadCellsFrom])
          simpa using this
        cases hx with
        | sle hb hc => exact key _ _ rfl
        | sli hb hc hn ht => exact key _ _ rfl
        | sl0 hk => exact key _ _ rfl
      · rename_i hn
        simp only [Option.bind_eq_some_iff, Option.map_eq_some_iff] at h
        obtain ⟨l, hl, s, hs', h⟩ := h
        cases h
        have key : ∀ (L : Loc) (c : Nat), ι b = some L → x' = .slice (some ⟨L.cb, L.base + o, none⟩) n c → Good P B ι H w (.string (mk s)) H ((convert src dst x').run P w) := by
          intro L c hb e1
          subst e1
          obtain ⟨l', h1, h2, h3⟩ := r.loadCells hb hl
          obtain ⟨ns, rfl, rfl⟩ := bytesOf_sound h1 hs'
          refine Good.still r (.str _) ?_
          rw [run_convert_bytes_string w src dst e _ n c hs he hd, run_bytesToString (P := P) w _ n c ns h3, foldl_push]
          simp [mk]
        cases hx with
        | sle hb hc => exact key _ _ hb rfl
        | sli hb hc hn ht => exact key _ _ hb rfl
        | sl0 hk => omega
    · simp at h
  · split at h
    · rename_i hg
      simp only [Option.map_eq_some_iff] at h
      obtain ⟨u, hu, h⟩ := h
      cases h
      obtain ⟨h1, h2⟩ := pvg_inv hu
      rw [gr_eq hg hx]
      exact Good.still r (gr_rel h2) (pv_run h1)
    · simp at h

/-! ### append -/

/-- What append looks at of its second argument. -/
structure SrcR (P : Program) (e : TypeId) (tx : TypeId) (x : Value) (n : Nat) (news : List Value) (w : World) : Prop where
  len : news.length = n * P.cellsOf e
  how : (((∃ e', P.underlying tx = some (.slice e')) ∨ P.underlying tx = some .string) ∧ (∀ w', (Builtin.lenOf x).run P w' = .ok n w') ∧
      (∀ w' : World, w'.heap = w.heap → (Builtin.firstCells (P.cellsOf e) n x).run P w' = .ok news.toArray w')) ∨
    (∃ k, P.underlying tx = some (.int k) ∧ x = .int .i64 n ∧ n * P.bytesOf e ≤ 140737488355328 ∧ n ≤ 140737488355328 ∧ ∃ i z, P.info? e = some i ∧ i.zero = some z ∧ 0 < z.cells.size ∧ z.cells.size = i.size ∧ news = zeros z.cells.toList n)

theorem loadCells_heap {a : Addr} {l : List Value} {w w' : World} (h : w'.heap = w.heap) (hc : ∀ j v, l[j]? = some v → w.cell? (a.add j) = some v) : (loadCells a l.length).run P w' = .ok l.toArray w' :=
  run_loadCells_list (P := P) w' a l fun j v hv => by
    have := hc j v hv
    simpa [World.cell?, h] using this

theorem srcOf_sound (r : Rel P B ι H w) {e tx : TypeId} {z : List Value} (hz : zrow P e = some z) {x x' : Value} (hx : RV ι x x') {n : Nat} {new : List Value} (h : srcOf P e z tx x H = some (n, new)) :
    ∃ new', RVs ι new new' ∧ SrcR P e tx x' n new' w := by
  obtain ⟨i, zv, hi, hz', hg, hzl, hsz, hpos⟩ := zrow_inv hz
  have hcs : P.cellsOf e = z.length := by rw [cellsOf_eq hi, hsz]
  unfold srcOf at h
  split at h
  · rename_i e' hu
    unfold srcS at h
    split at h
    · simp at h
      obtain ⟨rfl, rfl⟩ := h
      cases hx
      exact ⟨[], .nil, by simp, .inl ⟨.inl ⟨e', hu⟩, fun _ => rfl, fun w' _ => by simp [Builtin.firstCells]⟩⟩
    · rename_i b o m code
      split at h
      · rename_i hm
        simp at h
        obtain ⟨rfl, rfl⟩ := h
        have key : ∀ (a : Addr) (c : Nat), x' = .slice (some a) 0 c → ∃ new', RVs ι [] new' ∧ SrcR P e tx x' 0 new' w := by
          intro a c e1
          subst e1
          exact ⟨[], .nil, by simp, .inl ⟨.inl ⟨e', hu⟩, fun _ => rfl, fun w' _ => by simp [Builtin.firstCells, loadCells, loadCellsFrom]⟩⟩
        cases hx with
        | sle hb hc => subst hm; exact key _ _ rfl
        | sli hb hc hn ht => subst hm; exact key _ _ rfl
        | sl0 hk => exact key _ _ rfl
      · rename_i hm
        simp only [Option.map_eq_some_iff] at h
        obtain ⟨l, hl, h⟩ := h
        cases h
        have key : ∀ (L : Loc) (c : Nat), ι b = some L → x' = .slice (some ⟨L.cb, L.base + o, none⟩) n c → ∃ new', RVs ι new new' ∧ SrcR P e tx x' n new' w := by
          intro L c hb e1
          subst e1
          obtain ⟨l', h1, h2, h3⟩ := r.cut hb hl
          refine ⟨l', h1, by rw [h2, hcs], .inl ⟨.inl ⟨e', hu⟩, fun _ => rfl, fun w' hw => ?_⟩⟩
          simp only [Builtin.firstCells]
          rw [hcs, ← h2]
          exact loadCells_heap hw fun j v hv => by rw [add_none]; exact h3 j v hv
        cases hx with
        | sle hb hc => exact key _ _ hb rfl
        | sli hb hc hn ht => exact key _ _ hb rfl
        | sl0 hk => omega
    · simp at h
  · rename_i hu
    split at h
    · rename_i h1
      unfold srcT at h
      split at h
      · rename_i s
        cases hx
        simp at h
        obtain ⟨rfl, rfl⟩ := h
        refine ⟨_, bytes_rel (bl s), by rw [hcs, h1]; simp, .inl ⟨.inr hu, fun _ => by rw [bl_size]; rfl, fun w' _ => ?_⟩⟩
        rw [hcs, h1, bl_size]
        exact firstCells_string s w'
      · simp at h
    · simp at h
  · rename_i k hu
    unfold srcZ at h
    split at h
    · rename_i m
      cases hx
      split at h
      · rename_i hb
        simp at h
        obtain ⟨rfl, rfl⟩ := h
        have hcell : RVs ι z z := by rw [← hzl]; exact gr_cells hg
        refine ⟨zeros z m.toNat, zeros_rel hcell _, by rw [zeros_length, hcs], .inr ⟨k, hu, by simp; omega, ?_, by omega, i, zv, hi, hz', by rw [← hzl] at hpos; simpa using hpos, by rw [← hsz, ← hzl]; simp, by rw [hzl]⟩⟩
        have : (m.toNat : Int) = m := by omega
        have h2 := hb.2.1
        rw [← this, ← Int.natCast_mul] at h2
        omega
      · simp at h
    · simp at h
  · simp at h

theorem run_append_in {t tx ty e : TypeId} {i : TypeInfo} (ht : P.underlying t = some (.slice e)) (hi : P.info? e = some i) {g off len cap : Nat} {x : Value} {n : Nat} {news : List Value} (hn : n ≠ 0)
    (hs : SrcR P e tx x n news w) (hroom : len + n ≤ cap)
    (hst : (storeCells ⟨g, off + len * P.cellsOf e, none⟩ news).run P w = .ok () (w.setCells g (off + len * P.cellsOf e) news)) :
    (Builtin.append_ #[t, tx] ty #[.slice (some ⟨g, off, none⟩) len cap, x]).run P w = .ok (.slice (some ⟨g, off, none⟩) (len + n) cap) (w.setCells g (off + len * P.cellsOf e) news) := by
  have hsz := cellsOf_eq hi
  rcases hs.how with ⟨hk, hl, hc⟩ | ⟨k, hu, rfl, hb, hmax, i', z, hi', hz, hpos, hzs, rfl⟩
  · have hc' := hc w rfl
    rw [hsz] at hst hc' ⊢
    rcases hk with ⟨e', hk⟩ | hk <;> simp [Builtin.append_, run_underlying ht, run_underlying hk, sizeOf, typeInfo, hi, hl, hroom, hc', hst]
  · rw [hi] at hi'
    cases hi'
    have hbytes : P.bytesOf e = i.bytes := by simp [Program.bytesOf, hi]
    have w1 : IntKind.i64.wrap (n : Int) = n := wrap_id (by omega) (by omega)
    have t1 : ¬ ((n : Int) < 0) := by omega
    have t2 : ¬ ((n : Int) * i.bytes > 281474976710656) := by
      rw [hbytes] at hb
      have : ((n * i.bytes : Nat) : Int) ≤ ((140737488355328 : Nat) : Int) := Int.ofNat_le.2 hb
      rw [Int.natCast_mul] at this
      omega
    have t3 : ¬ (n * i.size = 0) := Nat.mul_ne_zero hn (by omega)
    have hzc := zeroCells_eq z.cells hpos n
    rw [hsz] at hst ⊢
    simp [Builtin.append_, run_underlying ht, run_underlying hu, sizeOf, typeInfo, zeroValue, hi, hz, asInt, asIntOf, w1, t1, t2, t3, hn, hroom, hzc, hst]

theorem run_append_out {t tx ty e : TypeId} {i : TypeInfo} {z : Value} (ht : P.underlying t = some (.slice e)) (hi : P.info? e = some i) (hz : i.zero = some z) {base : Option Addr} {len cap : Nat} {x : Value} {n : Nat} {news olds : List Value} (hn : n ≠ 0)
    (hs : SrcR P e tx x n news w) (hold : (Builtin.firstCells (P.cellsOf e) len (.slice base len cap)).run P w.drew = .ok olds.toArray w.drew) (hg : cap < len + n) (hmax : len + n ≤ 140737488355328)
    (hfit : (len + n) * P.bytesOf e ≤ 140737488355328) :
    (Builtin.append_ #[t, tx] ty #[.slice base len cap, x]).run P w =
      .ok (.slice (some ⟨w.heap.size, 0, none⟩) (len + n) (grownCap w (len + n) cap e))
        (w.drew.alloc (.cells (olds ++ (news ++ (Builtin.zeroCells z.cells (grownCap w (len + n) cap e - (len + n))).toList)).toArray e)) := by
  have hsz := cellsOf_eq hi
  have hbytes : P.bytesOf e = i.bytes := by simp [Program.bytesOf, hi]
  have hng : ¬ (len + n ≤ cap) := by omega
  have h63 : ¬ (9223372036854775807 < ((len : Int) + (n : Int))) := by omega
  have h48 : ¬ (281474976710656 < Builtin.nextslicecap (len + n) cap * i.bytes) := by
    have := growslice_fits (bytes := i.bytes) hg (by rw [← hbytes]; exact hfit)
    omega
  rcases hs.how with ⟨hk, hl, hc⟩ | ⟨k, hu, rfl, hb, hmax', i', z', hi', hz', hpos, hzs, rfl⟩
  · have hc' := hc w.drew rfl
    rw [hsz] at hc' hold
    rcases hk with ⟨e', hk⟩ | hk <;>
      (simp [Builtin.append_, run_underlying ht, run_underlying hk, sizeOf, typeInfo, zeroValue, hi, hz, hl, hng, h63, h48, Question.forced, hc', hold, newRow, grownCap]
       congr 2
       apply Array.ext'
       simp [List.append_assoc])
  · rw [hi] at hi'
    cases hi'
    rw [hz] at hz'
    cases hz'
    have w1 : IntKind.i64.wrap (n : Int) = n := wrap_id (by omega) (by omega)
    have t1 : ¬ ((n : Int) < 0) := by omega
    have t2 : ¬ ((n : Int) * i.bytes > 281474976710656) := by
      rw [hbytes] at hb
      have : ((n * i.bytes : Nat) : Int) ≤ ((140737488355328 : Nat) : Int) := Int.ofNat_le.2 hb
      rw [Int.natCast_mul] at this
      omega
    have t3 : ¬ (n * i.size = 0) := Nat.mul_ne_zero hn (by omega)
    have hzc := zeroCells_eq z.cells hpos n
    rw [hsz] at hold
    simp [Builtin.append_, run_underlying ht, run_underlying hu, sizeOf, typeInfo, zeroValue, hi, hz, asInt, asIntOf, w1, t1, t2, t3, hn, hng, h63, h48, Question.forced, hzc, hold, newRow, grownCap]
    congr 2
    apply Array.ext'
    simp [List.append_assoc]

theorem oldOf_sound (r : Rel P B ι H w) {e : TypeId} {len : Nat} {base base' : Option Addr} {cap : Nat} {old : List Value}
    (hb : len ≠ 0 → ∃ b o L, base = some ⟨b, o, none⟩ ∧ ι b = some L ∧ base' = some ⟨L.cb, L.base + o, none⟩) (h : oldOf (P.cellsOf e) len H base = some old) :
    ∃ old', RVs ι old old' ∧ old'.length = len * P.cellsOf e ∧ (Builtin.firstCells (P.cellsOf e) len (.slice base' len cap)).run P w.drew = .ok old'.toArray w.drew := by
  unfold oldOf at h
  split at h
  · rename_i h0
    simp at h
    subst h
    subst h0
    refine ⟨[], .nil, by simp, ?_⟩
    cases base' <;> simp [Builtin.firstCells, loadCells, loadCellsFrom]
  · rename_i h0
    obtain ⟨b, o, L, rfl, hbL, rfl⟩ := hb h0
    obtain ⟨l', h1, h2, h3⟩ := r.cut hbL h
    refine ⟨l', h1, h2, ?_⟩
    simp only [Builtin.firstCells]
    rw [← h2]
    exact loadCells_heap rfl fun j v hv => by rw [add_none]; exact h3 j v hv

theorem splA_old : ∀ (vs : List Value) (cs : Array Value) (o j : Nat), j < o → (splA cs o vs)[j]? = cs[j]?
  | [], _, _, _, _ => rfl
  | v :: r, cs, o, j, h => by
    simp only [splA]
    rw [splA_old r _ (o + 1) j (by omega), Array.getElem?_setIfInBounds_ne (by omega)]

theorem splA_new : ∀ (vs : List Value) (cs : Array Value) (o j : Nat), j < vs.length → o + vs.length ≤ cs.size → (splA cs o vs)[o + j]? = vs[j]?
  | v :: r, cs, o, 0, _, hs => by
    simp only [splA]
    rw [splA_old r _ (o + 1) _ (by omega)]
    simp at hs
    simp [show o < cs.size by omega]
  | v :: r, cs, o, j + 1, h, hs => by
    simp only [splA]
    have := splA_new r (cs.setIfInBounds o v) (o + 1) j (by simpa using h) (by simp at hs ⊢; omega)
    rw [show o + (j + 1) = o + 1 + j by omega, this]
    simp

/-- What holds behind a growing append: a new row. -/
theorem Rel.grown (r : Rel P B ι H w) {e : TypeId} {z : Value} {i : TypeInfo} (hi : P.info? e = some i) (hz : z.cells.size = i.size) {old old' new new' : List Value} (ho : RVs ι old old') (hnw : RVs ι new new') {need cap : Nat}
    (hl : (old ++ new).length = need * P.cellsOf e) {x : Result Value}
    (hx : x = .ok (.slice (some ⟨w.heap.size, 0, none⟩) need (grownCap w need cap e)) (w.drew.alloc (.cells (old' ++ (new' ++ (Builtin.zeroCells z.cells (grownCap w need cap e - need)).toList)).toArray e))) :
    Good P B ι H w (.slice (some ⟨H.n, 0, none⟩) need (2 * need + 1)) (H.push (.cells (old ++ new) e true)) x := by
  have hge := grown_le w need cap e
  have hb := RB.fresh (rest := (Builtin.zeroCells z.cells (grownCap w need cap e - need)).toList) r.drew (ho.append hnw) e
  rw [List.append_assoc] at hb
  have hlen : (old' ++ (new' ++ (Builtin.zeroCells z.cells (grownCap w need cap e - need)).toList)).length = grownCap w need cap e * P.cellsOf e := by
    have h1 := (ho.append hnw).length
    rw [hl] at h1
    rw [← List.append_assoc, List.length_append, ← h1]
    simp only [Array.length_toList, size_zeroCells, hz, cellsOf_eq hi]
    rw [← Nat.add_mul]
    congr 1
    omega
  generalize (old' ++ (new' ++ (Builtin.zeroCells z.cells (grownCap w need cap e - need)).toList)) = all at *
  obtain ⟨r', s'⟩ := r.drew.push _ _ ⟨w.heap.size, 0, P.cellsOf e, all.length⟩ rfl hb
  refine ⟨_, _, _, hx, ?_, r', (Stp.drew r.dom).trans s'⟩
  exact .sli (b := H.n) (o := 0) (L := ⟨w.heap.size, 0, P.cellsOf e, all.length⟩) (by simp [up]) hge hge (by simp only [Nat.zero_add]; exact hlen.symm)

theorem app_sound (r : Rel P B ι H w) {t tx ty e : TypeId} (ht : P.underlying t = some (.slice e)) {z : List Value} (hz : zrow P e = some z) {s s' x x' v : Value} {H' : AHeap}
    (hs : RV ι s s') (hx : RV ι x x') (h : app e z.length (P.bytesOf e) s (srcOf P e z tx x H) H = some (v, H')) :
    Good P B ι H w v H' ((Builtin.append_ #[t, tx] ty #[s', x']).run P w) := by
  obtain ⟨i, zv, hi, hz', hg, hzl, hsz, hpos⟩ := zrow_inv hz
  have hcs : P.cellsOf e = z.length := by rw [cellsOf_eq hi, hsz]
  have hzs : zv.cells.size = i.size := by rw [← hsz, ← hzl]; simp
  rw [← hcs] at h
  unfold app at h
  split at h
  · rename_i base len code
    simp only [Option.bind_eq_some_iff] at h
    obtain ⟨⟨n, new⟩, hsrc, h⟩ := h
    obtain ⟨new', hnew, hsr⟩ := srcOf_sound r hz hx hsrc
    simp only at h
    -- how the abstract slice stands to the concrete one
    have hform : ∃ base' cap, s' = .slice base' len cap ∧ len ≤ cap ∧ (code % 2 = 0 → cap = code / 2) ∧ code / 2 ≤ cap ∧
        (len ≠ 0 ∨ code / 2 ≠ 0 → ∃ b o L, base = some ⟨b, o, none⟩ ∧ ι b = some L ∧ base' = some ⟨L.cb, L.base + o, none⟩ ∧ (code % 2 = 1 → L.base + o + cap * L.sz = L.total)) ∧
        (len = 0 ∧ code / 2 = 0 → cap = 0 ∨ ∃ b o L, base = some ⟨b, o, none⟩ ∧ ι b = some L ∧ base' = some ⟨L.cb, L.base + o, none⟩ ∧ (code % 2 = 1 → L.base + o + cap * L.sz = L.total)) ∧
        (code / 2 ≠ 0 → ∀ m, m ≤ code / 2 → RV ι (.slice base m code) (.slice base' m cap)) := by
      cases hs with
      | nils => exact ⟨none, 0, rfl, by omega, by simp, by omega, by simp, by simp, by simp⟩
      | sle hb hc => rename_i b o c L; exact ⟨_, c, rfl, hc, by omega, by omega, fun _ => ⟨b, o, L, rfl, hb, rfl, by omega⟩, fun _ => .inr ⟨b, o, L, rfl, hb, rfl, by omega⟩, fun _ m hm => .sle hb (by omega)⟩
      | sli hb hc hn htot => rename_i b o c cc L; exact ⟨_, cc, rfl, hn, by omega, by omega, fun _ => ⟨b, o, L, rfl, hb, rfl, fun _ => htot⟩, fun _ => .inr ⟨b, o, L, rfl, hb, rfl, fun _ => htot⟩, fun _ m hm => .sli hb hc (by omega) htot⟩
      | sl0 hk => exact ⟨_, 0, rfl, by omega, by omega, by omega, by omega, by simp, by omega⟩
    obtain ⟨base', cap, rfl, hlc, hex, hcc, hloc, hloc0, hre⟩ := hform
    split at h
    · -- nothing is appended
      rename_i hn0
      simp at h
      obtain ⟨rfl, rfl⟩ := h
      subst hn0
      refine Good.still r hs ?_
      rcases hsr.how with ⟨hk, hl, hc⟩ | ⟨k, hu, rfl, hb, hmax', i', z', hi', hz'', hpos', hzs', rfl⟩
      · have hnil : new' = [] := by
          have := hsr.len
          simp at this
          exact this
        subst hnil
        have hc' := hc w rfl
        rw [cellsOf_eq hi] at hc'
        rcases hk with ⟨e', hk⟩ | hk <;> cases base' <;> simp [Builtin.append_, run_underlying ht, run_underlying hk, sizeOf, typeInfo, hi, hl, hlc, hc', storeCells]
      · have w1 : IntKind.i64.wrap (0 : Int) = 0 := by decide
        cases base' <;> simp [Builtin.append_, run_underlying ht, run_underlying hu, sizeOf, typeInfo, zeroValue, hi, hz', asInt, asIntOf, w1, hlc, storeCells]
    · rename_i hn0
      split at h
      · simp at h
      · rename_i hbig
        have hbig1 : (len + n) * P.bytesOf e ≤ 140737488355328 := by omega
        have hbig2 : len + n ≤ 140737488355328 := by omega
        split at h
        · -- there is room for certain
          rename_i hroom
          obtain ⟨b, o, L, rfl, hb, rfl, _⟩ := hloc (.inr (by omega))
          simp only [Option.map_eq_some_iff] at h
          obtain ⟨H1, hst, h⟩ := h
          cases h
          obtain ⟨xs, e0, hH, hfit, hone, rfl⟩ := stL_inv hst
          obtain ⟨k1, k2, k3⟩ := r.stored hb hH hnew hfit hone
          refine ⟨ι, .slice (some ⟨L.cb, L.base + o, none⟩) (len + n) cap, _, ?_, ?_, k2, k3⟩
          · have := run_append_in (ty := ty) ht hi hn0 hsr (show len + n ≤ cap by omega) (g := L.cb) (off := L.base + o) (by rw [Nat.add_assoc]; exact k1)
            rw [Nat.add_assoc] at this
            exact this
          · refine hre (fun h0 => ?_) _ hroom
            rw [h0] at hroom
            exact hn0 (Nat.le_zero.1 (Nat.le_trans (Nat.le_add_left n len) hroom))
        · rename_i hroom
          split at h
          · simp at h
          rename_i hones
          have hones' : new.all one = true := by simpa using hones
          simp only [Option.bind_eq_some_iff, Option.map_eq_some_iff] at h
          obtain ⟨old, hold, H1, hkill, h⟩ := h
          cases h
          have hloc1 : len ≠ 0 → ∃ b o L, base = some ⟨b, o, none⟩ ∧ ι b = some L ∧ base' = some ⟨L.cb, L.base + o, none⟩ := fun hl => by
            obtain ⟨b, o, L, h1, h2, h3, _⟩ := hloc (.inl hl)
            exact ⟨b, o, L, h1, h2, h3⟩
          obtain ⟨old', hold', holdlen, holdrun⟩ := oldOf_sound (cap := cap) r hloc1 hold
          have hlen : (old ++ new).length = (len + n) * P.cellsOf e := by
            rw [List.length_append, hold'.length, hnew.length, holdlen, hsr.len, Nat.add_mul]
          split at hkill
          · -- the capacity is known: a new row
            rename_i hev
            simp at hkill
            subst hkill
            exact r.grown hi hzs hold' hnew hlen (run_append_out ht hi hz' hn0 hsr holdrun (by have := hex hev; omega) hbig2 hbig1)
          · rename_i hodd
            have hodd' : code % 2 = 1 := by omega
            unfold kill at hkill
            split at hkill
            · rename_i b o
              split at hkill
              · rename_i xs e' hH
                split at hkill
                · rename_i hend
                  obtain ⟨rfl, hend⟩ := hend
                  simp at hkill
                  subst hkill
                  obtain ⟨rk, sk⟩ := r.kill b
                  by_cases hroom' : len + n ≤ cap
                  · -- in place: the block goes on under another name
                    have hL : ∃ L, ι b = some L ∧ base' = some ⟨L.cb, L.base + o, none⟩ ∧ L.base + o + cap * L.sz = L.total := by
                      by_cases h00 : len ≠ 0 ∨ code / 2 ≠ 0
                      · obtain ⟨b1, o1, L, h1, h2, h3, h4⟩ := hloc h00
                        cases h1
                        exact ⟨L, h2, h3, h4 hodd'⟩
                      · rcases hloc0 (by omega) with h1 | ⟨b1, o1, L, h1, h2, h3, h4⟩
                        · omega
                        · cases h1
                          exact ⟨L, h2, h3, h4 hodd'⟩
                    obtain ⟨L, hb, rfl, htot⟩ := hL
                    have hrb := r.blk b L hb
                    rw [hH] at hrb
                    obtain ⟨cs, e1, fr, g1, g2, g3, g4, g5⟩ := hrb
                    obtain ⟨gB, rfl, gsz, gfr⟩ := g5 rfl
                    rw [gsz] at htot
                    have hcap : (len + n) * P.cellsOf e1 ≤ cap * P.cellsOf e1 := Nat.mul_le_mul_right _ hroom'
                    rw [Nat.add_mul] at hcap
                    have hnl := hsr.len
                    have hfit : L.base + o + len * P.cellsOf e1 + new'.length ≤ cs.size := by rw [g2, hnl]; omega
                    have hst : (storeCells ⟨L.cb, L.base + o + len * P.cellsOf e1, none⟩ new').run P w = .ok () (w.setCells L.cb (L.base + o + len * P.cellsOf e1) new') := by
                      have := run_storeCells_cells (P := P) L.cb (L.base + o + len * P.cellsOf e1) new' 0 w (fun j hj => by
                          have : L.base + o + len * P.cellsOf e1 + 0 + j < cs.size := by omega
                          simp only [World.cell?, g1]
                          simp
                          omega) (fun j hj => by
                          have := gfr (L.base + o + len * P.cellsOf e1 + 0 + j) (by omega)
                          simp only [World.frozen?, g1]
                          simp
                          omega) (ones_sound hnew hones')
                      simpa using this
                    obtain ⟨s1, s2, s3, s4, s5, s6⟩ := setCells_heap new' L.cb (L.base + o + len * P.cellsOf e1) w g1
                    have howned : owned (H.f b) = true := by rw [hH]; rfl
                    obtain ⟨rt, st⟩ := r.turn hb howned .dead trivial s3 s2 s4 s5 s6
                    have holdget : ∀ j u, old[j]? = some u → j < len * P.cellsOf e1 ∧ xs[o + j]? = some u := by
                      intro j u hj
                      unfold oldOf at hold
                      split at hold
                      · simp at hold
                        subst hold
                        simp at hj
                      · simp only at hold
                        obtain ⟨xs', e', rw', hH', hle, rfl⟩ := cut_inv hold
                        rw [hH] at hH'
                        cases hH'
                        rw [List.getElem?_take] at hj
                        split at hj
                        · rename_i hlt
                          rw [List.getElem?_drop] at hj
                          exact ⟨hlt, hj⟩
                        · simp at hj
                    have holdl : old.length = len * P.cellsOf e1 := by rw [hold'.length, holdlen]
                    have hk : RB P B ι (w.setCells L.cb (L.base + o + len * P.cellsOf e1) new') ⟨L.cb, L.base + o, L.sz, L.total⟩ (.cells (old ++ new) e1 true) := by
                      refine ⟨_, e1, fr, s1, by simpa using g2, ?_, fun j u hj => ?_, fun _ => ⟨gB, rfl, gsz, by simpa using gfr⟩⟩
                      · rw [hlen, splA_size, g2, Nat.add_mul]
                        show L.base + o + (len * P.cellsOf e1 + n * P.cellsOf e1) ≤ L.total
                        omega
                      · show ∃ v', (splA cs (L.base + o + len * P.cellsOf e1) new')[L.base + o + j]? = some v' ∧ RV ι u v'
                        by_cases hlt : j < old.length
                        · rw [List.getElem?_append_left hlt] at hj
                          obtain ⟨hj1, hj2⟩ := holdget j u hj
                          obtain ⟨v', hv', hr⟩ := g4 (o + j) u hj2
                          refine ⟨v', ?_, hr⟩
                          rw [splA_old _ _ _ _ (by omega), Nat.add_assoc]
                          exact hv'
                        · rw [List.getElem?_append_right (by omega)] at hj
                          obtain ⟨v', hv', hr⟩ := hnew.get hj
                          refine ⟨v', ?_, hr⟩
                          have hjl : j - old.length < new'.length := (List.getElem?_eq_some_iff.1 hv').1
                          have := splA_new new' cs (L.base + o + len * P.cellsOf e1) (j - old.length) hjl hfit
                          rw [← hv', ← this]
                          congr 1
                          omega
                    have rl := rt.lay (.cells (old ++ new) e1 true) ⟨L.cb, L.base + o, L.sz, L.total⟩ (w' := w.setCells L.cb (L.base + o + len * P.cellsOf e1) new') (by rw [s3]; exact (r.lt b L hb).2) (Nat.le_refl _) hk
                      (fun c M hc hal => by
                        by_cases hcb : c = b
                        · subst hcb; simp [alive] at hal
                        · rw [AHeap.set_other _ _ hcb] at hal
                          exact (r.inj b c L M hb hc (Ne.symm hcb) howned hal).symm) (fun _ _ _ => rfl)
                    refine ⟨_, .slice (some ⟨L.cb, L.base + o, none⟩) (len + n) cap, _, run_append_in (ty := ty) ht hi hn0 hsr hroom' hst, ?_, rl, ?_⟩
                    · have : RV (up ι (H.set b .dead).n ⟨L.cb, L.base + o, L.sz, L.total⟩) (.slice (some ⟨(H.set b .dead).n, 0, none⟩) (len + n) (2 * (len + n) + 1)) (.slice (some ⟨L.cb, L.base + o + 0, none⟩) (len + n) cap) :=
                        .sli (L := ⟨L.cb, L.base + o, L.sz, L.total⟩) (by simp [up]) hroom' hroom' (by rw [gsz]; exact htot)
                      simpa using this
                    · constructor
                      · intro c hc; simp [up, show c ≠ H.n by omega]
                      · simp
                      · rw [s3]; exact Nat.le_refl _
                      · exact s4
                      · exact s5
                      · exact s6
                      · exact st.fr
                      · intro c M hc hM
                        by_cases hcn : c = H.n
                        · simp [up, hcn] at hM
                          subst hM
                          exact .inr ⟨b, L, (r.lt b L hb).1, hb, howned, rfl⟩
                        · simp [up, hcn] at hM
                          have := (r.lt c M hM).1
                          omega
                      · intro c M hc hM ho
                        have hcn : c ≠ (H.set b .dead).n := by simp; omega
                        rw [AHeap.push_old _ _ hcn] at ho
                        exact st.own c M hc hM ho
                      · exact (VO.set _ _ _ (by simp [alive])).trans (VO.push _ _)
                  · -- a new row
                    have := rk.grown (H := H.set b .dead) hi hzs hold' hnew hlen (run_append_out (ty := ty) ht hi hz' hn0 hsr holdrun (by omega) hbig2 hbig1)
                    obtain ⟨ι', v', w', q1, q2, q3, q4⟩ := this
                    exact ⟨ι', v', w', q1, by simpa using q2, q3, sk.trans q4⟩
                · simp at hkill
              · simp at hkill
            · simp at hkill
  · simp at h

end Go.Proofs.Ytlagijfkkpbbnaa.Eng
