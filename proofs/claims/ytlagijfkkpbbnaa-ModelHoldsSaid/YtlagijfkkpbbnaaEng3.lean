/-
  The engine, part 3: what an operation does on the abstract heap, it does in the model's world: reading, new blocks, stores.
  Conditions: none. By an AI agent.
-/
import Derived.Test.YtlagijfkkpbbnaaEng2
import Derived.Laws.IdiomCopy
import Derived.Laws.Strings
namespace Go.Proofs.Ytlagijfkkpbbnaa.Eng
open Go
set_option linter.unusedVariables false
set_option linter.unusedSimpArgs false

variable {P : Program} {B : Nat} {ι : Emb} {H : AHeap} {w : World}

theorem pv_run {α : Type} : ∀ {s : Sem α} {a : α}, pv P s = some a → s.run P w = .ok a w := by
  intro s
  induction s with
  | pure b => intro a h; simp [pv] at h; subst h; rfl
  | program k ih => intro a h; simp only [pv] at h; simp only [Sem.run]; exact ih P h
  | _ => intro a h; simp [pv] at h

theorem under_info {t : TypeId} {d : TypeDesc} (h : P.underlying t = some d) : ∃ i, P.info? t = some i := by
  unfold Program.underlying at h
  cases hi : P.info? t with
  | none => simp [hi] at h
  | some i => exact ⟨i, rfl⟩

theorem cellsOf_eq {t : TypeId} {i : TypeInfo} (h : P.info? t = some i) : P.cellsOf t = i.size := by simp [Program.cellsOf, h]

theorem run_sizeOf' {t : TypeId} {i : TypeInfo} (h : P.info? t = some i) : (sizeOf t).run P w = .ok (P.cellsOf t) w := by
  simp [sizeOf, typeInfo, h, cellsOf_eq h]

theorem row_info {t : TypeId} {b : Bool} (h : row? P t = some b) : ∃ i, P.info? t = some i := by
  unfold row? at h
  cases hu : P.underlying t with
  | none => simp [hu] at h
  | some d => exact under_info hu

theorem row_run {t : TypeId} {b : Bool} (h : row? P t = some b) : (isAgg t).run P w = .ok b w := by
  unfold row? at h
  unfold isAgg
  cases hu : P.underlying t with
  | none => simp [hu] at h
  | some d =>
    rw [Sem.run_bind, run_underlying hu w]
    cases d <;> simp_all

@[simp] theorem add_none (b o n : Nat) : (⟨b, o, none⟩ : Addr).add n = ⟨b, o + n, none⟩ := by unfold Addr.add; split <;> simp_all

/-! ### Reading -/

theorem Rel.cell (r : Rel P B ι H w) {b : Nat} {L : Loc} (hb : ι b = some L) {xs : List Value} {e : TypeId} {rw : Bool} (hH : H.f b = .cells xs e rw) {o : Nat} {v : Value} (hv : xs[o]? = some v) :
    ∃ v', w.cell? ⟨L.cb, L.base + o, none⟩ = some v' ∧ RV ι v v' := by
  have h := r.blk b L hb
  rw [hH] at h
  obtain ⟨cs, e', fr, h1, _, _, h4, _⟩ := h
  obtain ⟨v', hv', hr⟩ := h4 o v hv
  exact ⟨v', by simp [World.cell?, h1, hv'], hr⟩

theorem Rel.list (r : Rel P B ι H w) {b : Nat} {L : Loc} (hb : ι b = some L) {xs : List Value} {e : TypeId} {rw : Bool} (hH : H.f b = .cells xs e rw) : ∀ (n o : Nat), o + n ≤ xs.length →
    ∃ l, RVs ι ((xs.drop o).take n) l ∧ l.length = n ∧ ∀ j v, l[j]? = some v → w.cell? ⟨L.cb, L.base + o + j, none⟩ = some v
  | 0, o, _ => ⟨[], by simp; exact .nil, rfl, fun j v h => by simp at h⟩
  | n + 1, o, h => by
    obtain ⟨l, h1, h2, h3⟩ := Rel.list r hb hH n (o + 1) (by omega)
    have ho : o < xs.length := by omega
    obtain ⟨v', hv', hr⟩ := r.cell hb hH (List.getElem?_eq_getElem ho)
    refine ⟨v' :: l, ?_, by simp [h2], fun j v hj => ?_⟩
    · rw [List.drop_eq_getElem_cons ho, List.take_succ_cons]
      exact .cons hr h1
    · cases j with
      | zero => simp at hj; subst hj; simpa using hv'
      | succ j => have := h3 j v (by simpa using hj); rwa [show L.base + o + (j + 1) = L.base + (o + 1) + j by omega]

theorem cut_inv {b o n : Nat} {l : List Value} (h : cut H b o n = some l) : ∃ xs e rw, H.f b = .cells xs e rw ∧ o + n ≤ xs.length ∧ l = (xs.drop o).take n := by
  unfold cut at h
  cases hH : H.f b with
  | cells xs e rw =>
    simp only [hH] at h
    split at h
    · exact ⟨xs, e, rw, rfl, by assumption, by simpa using h.symm⟩
    · simp at h
  | dead => simp [hH] at h
  | map es => simp [hH] at h
  | siter s p => simp [hH] at h

theorem Rel.cut (r : Rel P B ι H w) {b : Nat} {L : Loc} (hb : ι b = some L) {o n : Nat} {l : List Value} (h : cut H b o n = some l) :
    ∃ l', RVs ι l l' ∧ l'.length = n ∧ ∀ j v, l'[j]? = some v → w.cell? ⟨L.cb, L.base + o + j, none⟩ = some v := by
  obtain ⟨xs, e, rw, hH, hn, rfl⟩ := cut_inv h
  exact r.list hb hH n o hn

theorem Rel.loadCells (r : Rel P B ι H w) {b : Nat} {L : Loc} (hb : ι b = some L) {o n : Nat} {l : List Value} (h : Eng.cut H b o n = some l) :
    ∃ l', RVs ι l l' ∧ l'.length = n ∧ (loadCells ⟨L.cb, L.base + o, none⟩ n).run P w = .ok l'.toArray w := by
  obtain ⟨l', h1, h2, h3⟩ := r.cut hb h
  refine ⟨l', h1, h2, ?_⟩
  rw [← h2]
  exact run_loadCells_list (P := P) w _ l' fun j v hv => by rw [add_none]; exact h3 j v hv

theorem ld1_sound (r : Rel P B ι H w) {a a' v : Value} (ha : RV ι a a') (h : ld1 H a = some v) {t : TypeId} (ht : row? P t = some false) :
    ∃ v', (Instr.loadAt t a').run P w = .ok v' w ∧ RV ι v v' := by
  unfold ld1 at h
  split at h
  · rename_i b o
    cases ha with
    | ptr hb =>
      split at h
      · rename_i xs e rw hH
        obtain ⟨v', hv', hr⟩ := r.cell hb hH h
        exact ⟨v', by simp [Instr.loadAt, Instr.sureAddr, loadVar, row_run ht, hv'], hr⟩
      · simp at h
  · simp at h

theorem ldN_sound (r : Rel P B ι H w) {a a' v : Value} (ha : RV ι a a') {t : TypeId} (h : ldN (P.cellsOf t) H a = some v) (ht : row? P t = some true) :
    ∃ v', (Instr.loadAt t a').run P w = .ok v' w ∧ RV ι v v' := by
  obtain ⟨i, hi⟩ := row_info ht
  unfold ldN at h
  split at h
  · rename_i b o
    cases ha with
    | ptr hb =>
      simp only [Option.map_eq_some_iff] at h
      obtain ⟨l, hl, rfl⟩ := h
      obtain ⟨l', h1, h2, h3⟩ := r.loadCells hb hl
      exact ⟨.agg l'.toArray, by simp [Instr.loadAt, Instr.sureAddr, loadVar, row_run ht, run_sizeOf' hi, h3], h1.agg⟩
  · simp at h

theorem xload_sound (r : Rel P B ι H w) {a a' v : Value} (ha : RV ι a a') {t : TypeId} (h : xload P t a H = some v) :
    ∃ v', (Instr.loadAt t a').run P w = .ok v' w ∧ RV ι v v' := by
  unfold xload at h
  split at h
  · exact ldN_sound r ha h (by assumption)
  · exact ld1_sound r ha h (by assumption)
  · simp at h

/-! ### New blocks -/

def up (ι : Emb) (n : Nat) (L : Loc) : Emb := fun b => if b = n then some L else ι b

theorem up_ext (r : Rel P B ι H w) (L : Loc) : ∀ b M, ι b = some M → up ι H.n L b = some M := by
  intro b M h
  have := (r.lt b M h).1
  simp [up, show b ≠ H.n by omega, h]

theorem alloc_size (w : World) (o : Obj) : (w.alloc o).heap.size = w.heap.size + 1 := by show (w.heap.push o).size = _; simp
theorem push_heap (w : World) (o : Obj) : (w.alloc o).heap[w.heap.size]? = some o := by show (w.heap.push o)[w.heap.size]? = _; simp
theorem push_heap_old (w : World) (o : Obj) {k : Nat} (h : k < w.heap.size) : (w.alloc o).heap[k]? = w.heap[k]? := RowKit.Below.heap_alloc w o k h

/-- A new abstract block over whatever lies at the concrete block L.cb, which no abstract block that lives stands for. -/
theorem Rel.lay (r : Rel P B ι H w) (k : Blk) (L : Loc) {w' : World} (hcb : L.cb < w'.heap.size) (hsz : w.heap.size ≤ w'.heap.size) (hk : RB P B ι w' L k)
    (hfree : ∀ b M, ι b = some M → alive (H.f b) = true → M.cb ≠ L.cb) (hold : ∀ c, c < w.heap.size → c ≠ L.cb → w'.heap[c]? = w.heap[c]?) :
    Rel P B (up ι H.n L) (H.push k) w' := by
  have hup := up_ext r L
  constructor
  · intro b M h
    by_cases hb : b = H.n
    · subst hb
      simp [up] at h
      subst h
      simpa using hk.mono hup
    · simp [up, hb] at h
      rw [AHeap.push_old _ _ hb]
      by_cases hal : alive (H.f b) = true
      · exact ((r.blk b M h).keep (hold _ (r.lt b M h).2 (hfree b M h hal))).mono hup
      · cases hq : H.f b with
        | dead => trivial
        | _ => simp [hq, alive] at hal
  · intro b M h
    by_cases hb : b = H.n
    · subst hb
      simp [up] at h
      subst h
      simpa using hcb
    · simp [up, hb] at h
      have := r.lt b M h
      simp
      omega
  · intro b c M N hM hN hne ho hal
    by_cases hb : b = H.n
    · by_cases hc : c = H.n
      · omega
      · simp [up, hb] at hM
        simp [up, hc] at hN
        rw [AHeap.push_old _ _ hc] at hal
        subst hM
        exact (hfree c N hN hal).symm
    · by_cases hc : c = H.n
      · simp [up, hb] at hM
        simp [up, hc] at hN
        rw [AHeap.push_old _ _ hb] at ho
        subst hN
        exact hfree b M hM (alive_of_owned ho)
      · simp [up, hb] at hM
        simp [up, hc] at hN
        rw [AHeap.push_old _ _ hb] at ho
        rw [AHeap.push_old _ _ hc] at hal
        exact r.inj b c M N hM hN hne ho hal
  · exact Nat.le_trans r.base hsz
  · intro b
    have h0 := r.ver b
    by_cases hb : b = H.n
    · subst hb; simp; omega
    · rw [AHeap.push_ver _ _ hb]; simpa using h0

theorem Rel.pushW (r : Rel P B ι H w) (k : Blk) (L : Loc) {w' : World} (hcb : L.cb = w.heap.size) (hsz : w'.heap.size = w.heap.size + 1) (hk : RB P B ι w' L k)
    (hold : ∀ c, c < w.heap.size → w'.heap[c]? = w.heap[c]?) (hos : w'.os = w.os) (htape : w'.tape = w.tape) (hout : w'.output = w.output) :
    Rel P B (up ι H.n L) (H.push k) w' ∧ Stp ι H w (up ι H.n L) (H.push k) w' := by
  refine ⟨r.lay k L (by omega) (by omega) hk (fun b M h _ => by have := (r.lt b M h).2; omega) (fun c hc _ => hold c hc), ?_⟩
  constructor
  · intro b hb; simp [up, show b ≠ H.n by omega]
  · simp
  · omega
  · exact hos
  · exact htape
  · exact hout
  · intro c hc _; exact hold c hc
  · intro b M hb h
    by_cases hbn : b = H.n
    · simp [up, hbn] at h
      subst h
      exact .inl (by omega)
    · simp [up, hbn] at h
      have := (r.lt b M h).1
      omega
  · intro b _ hb _ ho
    rwa [AHeap.push_old _ _ (by omega)] at ho
  · exact VO.push _ _

theorem Rel.push (r : Rel P B ι H w) (o : Obj) (k : Blk) (L : Loc) (hcb : L.cb = w.heap.size) (hk : RB P B ι (w.alloc o) L k) :
    Rel P B (up ι H.n L) (H.push k) (w.alloc o) ∧ Stp ι H w (up ι H.n L) (H.push k) (w.alloc o) :=
  r.pushW k L hcb (alloc_size w o) hk (fun c hc => push_heap_old w o hc) rfl rfl rfl

theorem set_verlt (r : Rel P B ι H w) (b : Nat) (k : Blk) : ∀ c, (H.set b k).ver c < (H.set b k).clk := by
  intro c
  have := r.ver c
  by_cases h : c = b
  · subst h; simp
  · rw [AHeap.set_ver _ _ h]; simp; omega

/-- A block that nobody asks any more. -/
theorem Rel.kill (r : Rel P B ι H w) (b : Nat) : Rel P B ι (H.set b .dead) w ∧ Stp ι H w ι (H.set b .dead) w := by
  have hown : ∀ c, owned ((H.set b .dead).f c) = true → owned (H.f c) = true := by
    intro c h
    by_cases hc : c = b
    · subst hc; simp [owned] at h
    · rwa [AHeap.set_other _ _ hc] at h
  have hal : ∀ c, alive ((H.set b .dead).f c) = true → alive (H.f c) = true := by
    intro c h
    by_cases hc : c = b
    · subst hc; simp [alive] at h
    · rwa [AHeap.set_other _ _ hc] at h
  constructor
  · refine ⟨fun c L h => ?_, r.lt, fun c d M N hM hN hne ho ha => r.inj c d M N hM hN hne (hown c ho) (hal d ha), r.base, set_verlt r b _⟩
    by_cases hc : c = b
    · subst hc; simp [RB]
    · rw [AHeap.set_other _ _ hc]; exact r.blk c L h
  · exact ⟨fun _ _ => rfl, by simp, Nat.le_refl _, rfl, rfl, rfl, fun _ _ _ => rfl, fun c L hc h => absurd (r.lt c L h).1 (by simpa using hc), fun c _ _ _ h => hown c h, VO.set _ _ _ (by simp [alive])⟩

theorem Rel.congr (r : Rel P B ι H w) {w' : World} (h : w'.heap = w.heap) : Rel P B ι H w' :=
  ⟨fun b L hb => (r.blk b L hb).keep (by rw [h]), fun b L hb => by rw [h]; exact r.lt b L hb, r.inj, by rw [h]; exact r.base, r.ver⟩

theorem Rel.drew (r : Rel P B ι H w) : Rel P B ι H w.drew := r.congr rfl

theorem Stp.drew (hι : ∀ b L, ι b = some L → b < H.n) : Stp ι H w ι H w.drew :=
  ⟨fun _ _ => rfl, Nat.le_refl _, Nat.le_refl _, rfl, rfl, rfl, fun _ _ _ => rfl, fun b L hb h => absurd (hι b L h) (by omega), fun _ _ _ _ h => h, VO.refl _⟩

/-- A new block of cells: what is in front are the abstract cells. -/
theorem RB.fresh (r : Rel P B ι H w) {l l' rest : List Value} (hl : RVs ι l l') (t : TypeId) :
    RB P B ι (w.alloc (.cells (l' ++ rest).toArray t)) ⟨w.heap.size, 0, P.cellsOf t, (l' ++ rest).length⟩ (.cells l t true) := by
  refine ⟨(l' ++ rest).toArray, t, (0, 0), push_heap _ _, by simp, by simp [hl.length], fun i v hv => ?_, fun _ => ⟨r.base, rfl, rfl, fun j _ => by omega⟩⟩
  obtain ⟨v', hv', hr⟩ := hl.get hv
  refine ⟨v', ?_, hr⟩
  have : i < l'.length := (List.getElem?_eq_some_iff.1 hv').1
  simp [List.getElem?_append_left this, hv']

theorem flat_sound {v v' : Value} (h : RV ι v v') {l : List Value} (hf : flat v = some l) : RVs ι l v'.cells.toList := by
  cases h with
  | unk c => simp [flat] at hf
  | agg h1 h2 => simp [flat] at hf; subst hf; exact RVs.of_arr h1 h2
  | tup => simp [flat] at hf
  | ptr h => simp [flat] at hf; subst hf; exact .cons (.ptr h) .nil
  | sle h hn => simp [flat] at hf; subst hf; exact .cons (.sle h hn) .nil
  | sli h hc hn ht => simp [flat] at hf; subst hf; exact .cons (.sli h hc hn ht) .nil
  | sl0 hk => simp [flat] at hf; subst hf; exact .cons (.sl0 hk) .nil
  | map h => simp [flat] at hf; subst hf; exact .cons (.map h) .nil
  | func h1 h2 h3 h4 => simp [flat] at hf; subst hf; exact .cons (.func h1 h2 h3 h4) .nil
  | iface h => simp [flat] at hf; subst hf; exact .cons (.iface h) .nil
  | bool b => simp [flat] at hf; subst hf; exact .cons (.bool b) .nil
  | int k n => simp [flat] at hf; subst hf; exact .cons (.int k n) .nil
  | flo k n => simp [flat] at hf; subst hf; exact .cons (.flo k n) .nil
  | str s => simp [flat] at hf; subst hf; exact .cons (.str s) .nil
  | nilp => simp [flat] at hf; subst hf; exact .cons .nilp .nil
  | nils => simp [flat] at hf; subst hf; exact .cons .nils .nil
  | nilm => simp [flat] at hf; subst hf; exact .cons .nilm .nil
  | nilfn => simp [flat] at hf; subst hf; exact .cons .nilfn .nil
  | nili => simp [flat] at hf; subst hf; exact .cons .nili .nil

/-- What holds behind an operation that gives a value. -/
def Good (P : Program) (B : Nat) (ι : Emb) (H : AHeap) (w : World) (v : Value) (H' : AHeap) (r : Result Value) : Prop :=
  ∃ ι' v' w', r = .ok v' w' ∧ RV ι' v v' ∧ Rel P B ι' H' w' ∧ Stp ι H w ι' H' w'

theorem Good.still (r : Rel P B ι H w) {v v' : Value} (h : RV ι v v') {x : Result Value} (hx : x = .ok v' w) : Good P B ι H w v H x :=
  ⟨ι, v', w, hx, h, r, Stp.refl _ _ _ r.dom⟩

theorem newv_sound (r : Rel P B ι H w) {t : TypeId} {v v' a : Value} {H' : AHeap} (hv : RV ι v v') (h : newv t v H = some (a, H')) :
    Good P B ι H w a H' ((do pure (.pointer (some (← newVar t v'))) : Sem Value).run P w) := by
  unfold newv at h
  simp only [Option.map_eq_some_iff] at h
  obtain ⟨l, hl, h⟩ := h
  cases h
  have hc := flat_sound hv hl
  have hb : RB P B ι (w.alloc (.cells v'.cells t)) ⟨w.heap.size, 0, P.cellsOf t, v'.cells.size⟩ (.cells l t true) := by
    have := RB.fresh (rest := []) r hc t
    simpa using this
  obtain ⟨r', s'⟩ := r.push _ _ ⟨w.heap.size, 0, P.cellsOf t, v'.cells.size⟩ rfl hb
  refine ⟨_, .pointer (some ⟨w.heap.size, 0, none⟩), w.alloc (.cells v'.cells t), ?_, ?_, r', s'⟩
  · simp [newVar, newRow]
  · exact .ptr (b := H.n) (o := 0) (L := ⟨w.heap.size, 0, P.cellsOf t, v'.cells.size⟩) (by simp [up])

theorem zero_inv {t : TypeId} {z : Value} (h : zero? P t = some z) : ∃ i, P.info? t = some i ∧ i.zero = some z ∧ gr 9 z = true := by
  unfold zero? at h
  split at h
  · rename_i i hi
    split at h
    · rename_i z' hz
      split at h
      · rename_i hg
        simp at h
        subst h
        exact ⟨i, hi, hz, hg⟩
      · simp at h
    · simp at h
  · simp at h

theorem xalloc_sound (r : Rel P B ι H w) {t : TypeId} {a : Value} {H' : AHeap} (h : xalloc P t H = some (a, H')) :
    Good P B ι H w a H' ((Instr.alloc t true (.tuple #[])).run P w) := by
  unfold xalloc at h
  simp only [Option.bind_eq_some_iff] at h
  obtain ⟨z, hz, h⟩ := h
  obtain ⟨i, hi, hz', hg⟩ := zero_inv hz
  have := newv_sound r (gr_rel hg) h
  simpa [Instr.alloc, zeroValue, typeInfo, hi, hz'] using this

/-! ### Stores -/

def splA : Array Value → Nat → List Value → Array Value
  | cs, _, [] => cs
  | cs, o, v :: r => splA (cs.setIfInBounds o v) (o + 1) r

@[simp] theorem splA_size : ∀ (vs : List Value) (cs : Array Value) (o : Nat), (splA cs o vs).size = cs.size
  | [], _, _ => rfl
  | _ :: r, cs, o => by simp [splA, splA_size r]

@[simp] theorem spl_length : ∀ (vs : List Value) (xs : List Value) (o : Nat), (spl xs o vs).length = xs.length
  | [], _, _ => rfl
  | _ :: r, xs, o => by simp [spl, spl_length r]

theorem setCell_heap (w : World) (g o : Nat) (v : Value) {cs : Array Value} {e : TypeId} {fr : Nat × Nat} (h : w.heap[g]? = some (.cells cs e fr)) :
    (w.setCell ⟨g, o, none⟩ v).heap[g]? = some (.cells (cs.setIfInBounds o v) e fr) := by
  simp [World.setCell, Array.getElem?_modify, h]

theorem setCells_heap : ∀ (vs : List Value) (g o : Nat) (w : World) {cs : Array Value} {e : TypeId} {fr : Nat × Nat}, w.heap[g]? = some (.cells cs e fr) →
    (w.setCells g o vs).heap[g]? = some (.cells (splA cs o vs) e fr) ∧ (∀ k, k ≠ g → (w.setCells g o vs).heap[k]? = w.heap[k]?) ∧ (w.setCells g o vs).heap.size = w.heap.size ∧
      (w.setCells g o vs).os = w.os ∧ (w.setCells g o vs).tape = w.tape ∧ (w.setCells g o vs).output = w.output
  | [], g, o, w, cs, e, fr, h => ⟨h, fun _ _ => rfl, rfl, rfl, rfl, rfl⟩
  | v :: r, g, o, w, cs, e, fr, h => by
    obtain ⟨h1, h2, h3, h4, h5, h6⟩ := setCells_heap r g (o + 1) (w.setCell ⟨g, o, none⟩ v) (setCell_heap w g o v h)
    refine ⟨h1, fun k hk => (h2 k hk).trans (RowKit.Below.heap_setCell w ⟨g, o, none⟩ v k hk), h3.trans (by simp [World.setCell]), h4, h5, h6⟩

/-- The cells of a block after a store. -/
theorem spl_rel : ∀ {vs vs' : List Value}, RVs ι vs vs' → ∀ {xs : List Value} {cs : Array Value} {base o : Nat}, base + xs.length ≤ cs.size →
    (∀ i v, xs[i]? = some v → ∃ v', cs[base + i]? = some v' ∧ RV ι v v') → ∀ i v, (spl xs o vs)[i]? = some v → ∃ v', (splA cs (base + o) vs')[base + i]? = some v' ∧ RV ι v v' := by
  intro vs vs' h
  induction h with
  | nil => intro xs cs base o _ h i v hv; exact h i v hv
  | @cons a a' l l' ha _ ih =>
    intro xs cs base o hs h i v hv
    have := ih (xs := xs.set o a) (cs := cs.setIfInBounds (base + o) a') (base := base) (o := o + 1) (by simpa using hs) (fun j u hu => by
      by_cases hj : j = o
      · subst hj
        have hlt : j < xs.length := by
          have := (List.getElem?_eq_some_iff.1 hu).1
          simpa using this
        rw [List.getElem?_set_self hlt] at hu
        cases hu
        exact ⟨a', by rw [Array.getElem?_setIfInBounds_self_of_lt (by omega)], ha⟩
      · rw [List.getElem?_set_ne (Ne.symm hj)] at hu
        obtain ⟨u', hu', hr⟩ := h j u hu
        exact ⟨u', by rw [Array.getElem?_setIfInBounds_ne (by omega)]; exact hu', hr⟩) i v hv
    simpa [splA, Nat.add_assoc] using this

theorem one_sound {v v' : Value} (h : RV ι v v') (h1 : one v = true) : v'.oneCell' = true := by
  cases h <;> first | rfl | simp [one] at h1

theorem ones_sound {vs vs' : List Value} (h : RVs ι vs vs') (h1 : vs.all one = true) : ∀ v ∈ vs', v.oneCell' = true := by
  induction h with
  | nil => intro v hv; cases hv
  | cons h _ ih =>
    simp only [List.all_cons, Bool.and_eq_true] at h1
    intro v hv
    rcases List.mem_cons.1 hv with rfl | hv
    · exact one_sound h h1.1
    · exact ih h1.2 v hv

/-- A written block takes another form: the same concrete block. -/
theorem Rel.turn (r : Rel P B ι H w) {b : Nat} {L : Loc} (hb : ι b = some L) (ho : owned (H.f b) = true) (k : Blk) {w' : World} (hk : RB P B ι w' L k)
    (hsz : w'.heap.size = w.heap.size) (hkeep : ∀ c, c ≠ L.cb → w'.heap[c]? = w.heap[c]?) (hos : w'.os = w.os) (htape : w'.tape = w.tape) (hout : w'.output = w.output) :
    Rel P B ι (H.set b k) w' ∧ Stp ι H w ι (H.set b k) w' := by
  constructor
  · constructor
    · intro c M h
      by_cases hc : c = b
      · subst hc
        rw [hb] at h
        cases h
        simpa using hk
      · rw [AHeap.set_other _ _ hc]
        by_cases hal : alive (H.f c) = true
        · exact (r.blk c M h).keep (hkeep _ (fun e => r.inj b c L M hb h (Ne.symm hc) ho hal e.symm))
        · cases hq : H.f c with
          | dead => trivial
          | _ => simp [hq, alive] at hal
    · intro c M h; rw [hsz]; exact r.lt c M h
    · intro c d M N hM hN hne hoc hal
      have hoc' : owned (H.f c) = true := by
        by_cases hc : c = b
        · subst hc; exact ho
        · rwa [AHeap.set_other _ _ hc] at hoc
      have hal' : alive (H.f d) = true := by
        by_cases hd : d = b
        · subst hd; exact alive_of_owned ho
        · rwa [AHeap.set_other _ _ hd] at hal
      exact r.inj c d M N hM hN hne hoc' hal'
    · rw [hsz]; exact r.base
    · exact set_verlt r b k
  · constructor
    · intro _ _; rfl
    · simp
    · rw [hsz]; exact Nat.le_refl _
    · exact hos
    · exact htape
    · exact hout
    · intro c _ h; exact hkeep c (fun e => h b L hb ho e.symm)
    · intro c M hc h; have := (r.lt c M h).1; omega
    · intro c _ _ _ hoc
      by_cases hc : c = b
      · subst hc; exact ho
      · rwa [AHeap.set_other _ _ hc] at hoc
    · exact VO.set _ _ _ (fun _ => alive_of_owned ho)

theorem Rel.stored (r : Rel P B ι H w) {b : Nat} {L : Loc} (hb : ι b = some L) {xs : List Value} {e : TypeId} (hH : H.f b = .cells xs e true) {o : Nat} {vs vs' : List Value} (hvs : RVs ι vs vs')
    (hfit : o + vs.length ≤ xs.length) (h1 : vs.all one = true) :
    (storeCells ⟨L.cb, L.base + o, none⟩ vs').run P w = .ok () (w.setCells L.cb (L.base + o) vs') ∧
    Rel P B ι (H.set b (.cells (spl xs o vs) e true)) (w.setCells L.cb (L.base + o) vs') ∧ Stp ι H w ι (H.set b (.cells (spl xs o vs) e true)) (w.setCells L.cb (L.base + o) vs') := by
  have h := r.blk b L hb
  rw [hH] at h
  obtain ⟨cs, e', fr, g1, g2, g3, g4, g5⟩ := h
  obtain ⟨gB, rfl, gsz, gfr⟩ := g5 rfl
  obtain ⟨s1, s2, s3, s4, s5, s6⟩ := setCells_heap vs' L.cb (L.base + o) w g1
  have hlen := hvs.length
  refine ⟨?_, ?_⟩
  · have := run_storeCells_cells (P := P) L.cb (L.base + o) vs' 0 w (fun j hj => by
        have : L.base + o + 0 + j < cs.size := by omega
        simp only [World.cell?, g1]
        simp
        omega) (fun j hj => by
        have := gfr (L.base + o + 0 + j) (by omega)
        simp only [World.frozen?, g1]
        simp
        omega) (ones_sound hvs h1)
    simpa using this
  · refine r.turn hb (by rw [hH]; rfl) _ ?_ s3 s2 s4 s5 s6
    exact ⟨_, e', fr, s1, by simpa using g2, by simpa using g3, fun i v hv => spl_rel hvs g3 g4 i v hv, fun _ => ⟨gB, rfl, gsz, by simpa using gfr⟩⟩

theorem stL_inv {b o : Nat} {vs : List Value} {H' : AHeap} (h : stL H b o vs = some H') : ∃ xs e, H.f b = .cells xs e true ∧ o + vs.length ≤ xs.length ∧ vs.all one = true ∧ H' = H.set b (.cells (spl xs o vs) e true) := by
  unfold stL at h
  split at h
  · rename_i xs e hH
    split at h
    · split at h
      · exact ⟨xs, e, hH, by assumption, by assumption, by simpa using h.symm⟩
      · simp at h
    · simp at h
  · simp at h

theorem st1_sound (r : Rel P B ι H w) {a a' v v' : Value} (ha : RV ι a a') (hv : RV ι v v') {H' : AHeap} (h : st1 H a v = some H') {t : TypeId} (hi : ∃ i, P.info? t = some i) (ht : P.cellsOf t = 1) :
    ∃ w', (Instr.storeAt t a' v').run P w = .ok () w' ∧ Rel P B ι H' w' ∧ Stp ι H w ι H' w' := by
  obtain ⟨i, hi⟩ := hi
  unfold st1 at h
  split at h
  · rename_i b o
    cases ha with
    | ptr hb =>
      split at h
      · rename_i xs e hH
        split at h
        · rename_i ho
          split at h
          · rename_i h1
            simp at h
            subst h
            obtain ⟨k1, k2, k3⟩ := r.stored hb hH (o := o) (.cons hv .nil) (by simp; omega) (by simp [h1])
            refine ⟨_, ?_, k2, k3⟩
            have hc : v'.cells = #[v'] := by
              have := one_sound hv h1
              cases v' <;> simp_all [Value.cells, Value.oneCell']
            simp [Instr.storeAt, Instr.sureAddr, storeVar, run_sizeOf' hi, ht, hc, k1]
          · simp at h
        · simp at h
      · simp at h
  · simp at h

theorem stN_sound (r : Rel P B ι H w) {a a' v v' : Value} (ha : RV ι a a') (hv : RV ι v v') {H' : AHeap} {t : TypeId} (h : stN (P.cellsOf t) H a v = some H') (hi : ∃ i, P.info? t = some i) :
    ∃ w', (Instr.storeAt t a' v').run P w = .ok () w' ∧ Rel P B ι H' w' ∧ Stp ι H w ι H' w' := by
  obtain ⟨i, hi⟩ := hi
  unfold stN at h
  split at h
  · rename_i b o cs
    cases ha with
    | ptr hb =>
      cases hv with
      | agg g1 g2 =>
        split at h
        · rename_i hn
          obtain ⟨xs, e, hH, h1, h2, rfl⟩ := stL_inv h
          obtain ⟨k1, k2, k3⟩ := r.stored hb hH (RVs.of_arr g1 g2) h1 h2
          refine ⟨_, ?_, k2, k3⟩
          simp [Instr.storeAt, Instr.sureAddr, storeVar, run_sizeOf' hi, Value.cells, ← hn, g1, k1]
        · simp at h
  · simp at h

theorem xstore_sound (r : Rel P B ι H w) {a a' v v' : Value} (ha : RV ι a a') (hv : RV ι v v') {H' : AHeap} {t : TypeId} (h : xstore P t a v H = some H') :
    ∃ w', (Instr.storeAt t a' v').run P w = .ok () w' ∧ Rel P B ι H' w' ∧ Stp ι H w ι H' w' := by
  unfold xstore at h
  split at h
  · exact stN_sound r ha hv h (row_info (by assumption))
  · split at h
    · exact st1_sound r ha hv h (row_info (by assumption)) (by assumption)
    · simp at h
  · simp at h

end Go.Proofs.Ytlagijfkkpbbnaa.Eng
