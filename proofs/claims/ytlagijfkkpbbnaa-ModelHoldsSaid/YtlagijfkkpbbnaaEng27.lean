/-
  The engine, part 27: a law's arguments that are slices: what they read as in the abstract heap.
  Conditions: none. By an AI agent.
-/
import Derived.Test.YtlagijfkkpbbnaaEng26
import Derived.ChangeArms
import Derived.DataReads
import Derived.ChangeShapes
import Derived.WideShapes
namespace Go.Proofs.Ytlagijfkkpbbnaa.Eng
open Go
set_option linter.unusedVariables false
set_option linter.unusedSimpArgs false

variable {P : Program} {W : World}

theorem cell_abs {a : Addr} {v : Value} (h : W.cell? a = some v) : ∃ cs e fr, W.heap[a.block]? = some (.cells cs e fr) ∧ cs[a.off]? = some v ∧ a.spot = none := by
  unfold World.cell? at h
  split at h
  · rename_i c e fr hw
    split at h
    · cases h
    · rename_i hs
      exact ⟨c, e, fr, hw, h, by simpa using hs⟩
  · cases h

/-- A cell that names no memory. -/
def plain : Value → Bool
  | .int _ _ | .string _ | .bool _ => true
  | _ => false

theorem conv_plain {n : Nat} {v : Value} (h : plain v = true) : conv n v = v := by
  cases v <;> first | rfl | (simp [plain] at h)

theorem absHeap_cell {a : Addr} {v : Value} (h : W.cell? a = some v) (hp : plain v = true) : a.block < W.heap.size ∧ a.spot = none ∧ cellB ((absHeap W).f a.block) a.off = some v := by
  obtain ⟨cs, e, fr, h1, h2, h3⟩ := cell_abs h
  refine ⟨by rw [Array.getElem?_eq_some_iff] at h1; exact h1.1, h3, ?_⟩
  simp only [absHeap, h1, cellB]
  rw [List.getElem?_map, Array.getElem?_toList, h2]
  simp [conv_plain hp]

theorem cutB_of_cells {k : Blk} {o n : Nat} {xs : List Value} (hl : xs.length = n) (hn : 0 < n) (h : ∀ i, i < n → cellB k (o + i) = xs[i]?) : cutB k o n = some xs := by
  cases k with
  | cells ys e rw =>
    unfold cutB
    simp only
    have hlen : o + n ≤ ys.length := by
      have := h (n - 1) (by omega)
      rw [List.getElem?_eq_getElem (by omega)] at this
      unfold cellB at this
      have := (List.getElem?_eq_some_iff.1 this).1
      omega
    rw [if_pos hlen]
    congr 1
    apply List.ext_getElem?
    intro i
    by_cases hi : i < n
    · rw [List.getElem?_take_of_lt hi, List.getElem?_drop, ← h i hi]
      rfl
    · rw [List.getElem?_eq_none (by simp; omega), List.getElem?_eq_none (by omega)]
  | _ =>
    have := h 0 hn
    rw [List.getElem?_eq_getElem (by omega)] at this
    cases this

section
variable {α : Type} {E : Enc α} {R : α → Prop} {H : Type} {enc : TypeId × Value → H}

/-- A slice of elements of plain cells reads as a list. -/
theorem open_rd {t e : TypeId} {v : Value} {d : DataW H} {p : List MemPlace} (ht : P.underlying t = some (.slice e)) (hC : P.cellsOf e = E.w)
    (dec : ∀ cs n y, DataW.trod enc P W 0 (fun _ => true) true n e cs = some y → cs.length = E.w → ∃ a, cs = E.enc a ∧ R a ∧ cs.all plain = true)
    (hval : Value.okWide P W .any 0 t v) (h : DataW.Trod enc P W 0 (fun _ => true) true t v d p) :
    ∃ l : List α, Rd E (absHeap W) (convA W.heap.size v) l ∧ (∀ a, a ∈ l → R a) ∧ l.length ≤ maxLen := by
  obtain ⟨a0, len0, cap0, rfl⟩ := Go.WideShapes.okWide_slice ht hval
  obtain ⟨fuel, hf⟩ := h
  rcases DataW.trod_slice ht hf with ⟨h0, _⟩ | ⟨a, len, cap, elems, rest, n, _, hcs, _, _, hl, hm, hlen, hel, _, _⟩
  · simp [Value.cells] at h0
    obtain ⟨rfl, rfl, rfl⟩ := h0
    exact ⟨[], .inl ⟨rfl, rfl⟩, by simp, by simp⟩
  · simp [Value.cells] at hcs
    obtain ⟨rfl, rfl, rfl⟩ := hcs
    -- the elements
    have hone : ∀ i, i < len0 → ∃ x : α, R x ∧ ∀ j, j < E.w → ∃ c, W.cell? ((a.add (i * E.w)).add j) = some c ∧ (E.enc x)[j]? = some c ∧ plain c = true := by
      intro i hi
      have h1 := hel i hi
      rw [List.getElem?_eq_getElem (by omega)] at h1
      obtain ⟨cs, hc, htr⟩ := Option.bind_eq_some_iff.1 h1
      rw [hC] at hc
      obtain ⟨_, hcl, hat⟩ := World.cells?_some hc
      obtain ⟨x, hx, hR, hpl⟩ := dec cs _ _ htr hcl
      refine ⟨x, hR, fun j hj => ?_⟩
      have hj' : j < cs.length := by omega
      refine ⟨cs[j], by rw [hat j hj, List.getElem?_eq_getElem hj'], by rw [← hx, List.getElem?_eq_getElem hj'], List.all_eq_true.1 hpl _ (List.getElem_mem _)⟩
    have hall : ∀ m, m ≤ len0 → ∃ l : List α, l.length = m ∧ (∀ x, x ∈ l → R x) ∧ ∀ i, ∀ h : i < l.length, ∀ j, j < E.w → ∃ c, W.cell? ((a.add (i * E.w)).add j) = some c ∧ (E.enc l[i])[j]? = some c ∧ plain c = true := by
      intro m
      induction m with
      | zero => intro _; exact ⟨[], rfl, by simp, by simp⟩
      | succ m ih =>
        intro hm
        obtain ⟨l, h1, h2, h3⟩ := ih (by omega)
        obtain ⟨x, hR, hx⟩ := hone m (by omega)
        refine ⟨l ++ [x], by simp [h1], fun y hy => ?_, fun i hi j hj => ?_⟩
        · rcases List.mem_append.1 hy with hy | hy
          · exact h2 y hy
          · simp at hy; subst hy; exact hR
        · by_cases hil : i < l.length
          · rw [List.getElem_append_left hil]; exact h3 i hil j hj
          · have : i = m := by simp at hi; omega
            subst this
            rw [List.getElem_append_right (by omega)]
            simp only [h1, Nat.sub_self, List.getElem_cons_zero]
            exact hx j hj
    obtain ⟨l, hll, hR, hcell⟩ := hall len0 (Nat.le_refl _)
    refine ⟨l, ?_, hR, by omega⟩
    by_cases h0 : l = []
    · subst h0
      simp at hll
      subst hll
      -- no element: the place is one all the same
      simp only [Value.okWide, ht, Cell.okWide, Cell.ok] at hval
      obtain ⟨hle, _, _, hs, row, cells, hshape, _⟩ := hval
      have hb : a.block < W.heap.size := by
        unfold World.shape? at hshape
        split at hshape
        · rename_i hw; exact (Array.getElem?_eq_some_iff.1 hw).1
        · cases hshape
      obtain ⟨b, o, s⟩ := a
      simp only at hs hb
      subst hs
      refine .inr (.inl ⟨rfl, ⟨b, o, none⟩, 2 * cap0, ?_, rfl⟩)
      simp only [convA, conv]
      rw [if_pos ⟨hb, hle⟩]
    · have hpos : 0 < l.length := List.length_pos_iff.2 h0
      obtain ⟨c0, hc0, _, hp0⟩ := hcell 0 hpos 0 E.pos
      simp only [Nat.zero_mul] at hc0
      have hadd0 : (a.add 0).add 0 = a := by simp [Addr.add]
      rw [hadd0] at hc0
      obtain ⟨hb, hs, _⟩ := absHeap_cell hc0 hp0
      obtain ⟨b, o, s⟩ := a
      simp only at hs hb
      subst hs
      have hconv : convA W.heap.size (.slice (some ⟨b, o, none⟩) len0 cap0) = .slice (some ⟨b, o, none⟩) l.length (2 * cap0) := by
        rw [hll]
        simp only [convA, conv]
        rw [if_pos ⟨hb, hl⟩]
      rw [hconv]
      refine .inr (.inr ⟨b, o, _, rfl, h0, hb, ?_⟩)
      refine cutB_of_cells (by simp) (Nat.mul_pos hpos E.pos) fun i hi => ?_
      have hw := E.pos
      have hdm : i = (i / E.w) * E.w + i % E.w := by rw [Nat.mul_comm]; exact (Nat.div_add_mod i E.w).symm
      have hmod : i % E.w < E.w := Nat.mod_lt _ hw
      have hdiv : i / E.w < l.length := Nat.div_lt_of_lt_mul (by rw [Nat.mul_comm]; exact hi)
      obtain ⟨c, hc, hec, hpc⟩ := hcell (i / E.w) hdiv (i % E.w) hmod
      have haddr : ((⟨b, o, none⟩ : Addr).add (i / E.w * E.w)).add (i % E.w) = ⟨b, o + i, none⟩ := by
        have : ∀ (x y z : Nat), ((⟨x, y, none⟩ : Addr).add z) = ⟨x, y + z, none⟩ := by
          intro x y z
          unfold Addr.add
          split
          · rename_i h; subst h; rfl
          · rfl
        rw [this, this, Nat.add_assoc, ← hdm]
      rw [haddr] at hc
      obtain ⟨_, _, habs⟩ := absHeap_cell hc hpc
      rw [habs]
      have hel2 := E.cells_elem l (i / E.w) hdiv
      have : (E.cells l)[i]? = (E.enc l[i / E.w])[i % E.w]? := by
        rw [← hel2, List.getElem?_take_of_lt hmod, List.getElem?_drop, ← hdm]
      rw [this, hec]
end

/-! ### What cells of a kind are -/
theorem dec_int {H : Type} {enc : TypeId × Value → H} {e : TypeId} {k : IntKind} (he : P.underlying e = some (.int k)) {n : Nat} {y : DataW H × List MemPlace} {c : Value} (h : DataW.trod enc P W 0 (fun _ => true) true n e [c] = some y) :
    ∃ i, c = .int k i ∧ (Lit.int k i).wf = true := by
  obtain ⟨i, h1, _, h2⟩ := DataW.trod_int he h
  exact ⟨i, (List.cons.inj h1).1, h2⟩
theorem dec_str {H : Type} {enc : TypeId × Value → H} {e : TypeId} (he : P.underlying e = some .string) {n : Nat} {y : DataW H × List MemPlace} {c : Value} (h : DataW.trod enc P W 0 (fun _ => true) true n e [c] = some y) :
    ∃ s, c = .string s ∧ s.size ≤ maxLen := by
  obtain ⟨i, h1, _, h2⟩ := DataW.trod_string he h
  exact ⟨i, (List.cons.inj h1).1, h2⟩

theorem wf_i64 {i : Int} (h : (Lit.int .i64 i).wf = true) : -9223372036854775808 ≤ i ∧ i < 9223372036854775808 := by
  simp [Lit.wf, IntKind.min, IntKind.max, IntKind.signed, IntKind.bits] at h
  omega

/-- A field of a struct of one-cell fields. -/
theorem dec_field {H : Type} {enc : TypeId × Value → H} {t : TypeId} {fs : Array Field} (ht : P.underlying t = some (.struct fs)) {n : Nat} {cs : List Value} {y : DataW H × List MemPlace} (h : DataW.trod enc P W 0 (fun _ => true) true n t cs = some y)
    {i : Nat} {f : Field} (hf : fs[i]? = some f) (ho : f.offset = i) (hc : P.cellsOf f.type = 1) {c : Value} (hci : cs[i]? = some c) :
    ∃ m z, DataW.trod enc P W 0 (fun _ => true) true m f.type [c] = some z := by
  obtain ⟨xs, m, _, _, hl, hxl, hfd⟩ := DataW.trod_struct ht h
  have h1 := hfd i f hf
  have hi : i < cs.length := (List.getElem?_eq_some_iff.1 hci).1
  have hone : (cs.drop f.offset).take (P.cellsOf f.type) = [c] := by
    rw [ho, hc, List.drop_eq_getElem_cons hi]
    have := (List.getElem?_eq_some_iff.1 hci).2
    simp [this]
  rw [hone] at h1
  have hix : i < xs.length := by rw [hxl]; exact (Array.getElem?_eq_some_iff.1 hf).1
  rw [List.getElem?_eq_getElem hix] at h1
  exact ⟨_, _, h1⟩

end Go.Proofs.Ytlagijfkkpbbnaa.Eng
