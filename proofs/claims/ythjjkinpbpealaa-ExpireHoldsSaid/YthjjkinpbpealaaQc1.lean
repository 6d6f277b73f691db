/-
  5 texts in one (merge.py): Wt Wu Hints Known Names.
  Conditions: none. By an AI agent.
-/
import Derived.Test.YthjjkinpbpealaaQb1
import Derived.Test.YthjjkinpbpealaaQa3
import Derived.Test.YthjjkinpbpealaaChecked
import Derived.KernelRfl

/-
  Chapter 45: waiting, Next (and Copy of nil) as prims.
  Conditions: none. By an AI agent.
-/
set_option linter.unusedSimpArgs false
set_option linter.unusedVariables false
namespace Go.Proofs.Ythjjkinpbpealaa
open Go Eng Go.Maps

def entS : List (Value × Value) → Option (List (List UInt8 × Int))
  | [] => some []
  | (.string b, .int .i64 n) :: l => if decide (b.size ≤ 1000) && (decide (0 < n) && decide (n ≤ 4611686018427387904)) then (entS l).map ((b.data.toList, n) :: ·) else none
  | _ => none
def befB (a b : List UInt8 × Int) : Bool := decide (a.2 < b.2) || (decide (a.2 = b.2) && Op.bytesLess a.1 b.1)
def insE (x : List UInt8 × Int) : List (List UInt8 × Int) → List (List UInt8 × Int)
  | [] => [x]
  | y :: l => if befB y x then y :: insE x l else x :: y :: l
def sortE : List (List UInt8 × Int) → List (List UInt8 × Int)
  | [] => []
  | x :: l => insE x (sortE l)
def minE (now : Int) : List (List UInt8 × Int) → Int
  | [] => 0
  | k :: l => if decide (k.2 ≤ now) then minE now l else if decide (minE now l = 0) || decide (k.2 < minE now l) then k.2 else minE now l

def waitP : List Value → AHeap → Res := fun args H => match args with
  | [.pointer (some ⟨b, o, none⟩)] => (match H.f b with
    | .cells xs _ _ => (match xs[o + 1]? with
      | some (.map none) => some (.slice none 0 0, H)
      | some (.map (some mb)) => (match xs[o + 2]? with
        | some (.int .i64 now) => (match H.f mb with
          | .map es => (match entS es with
            | some ks => if es.length ≤ 1000000 then (if (ks.filter fun k => decide (k.2 ≤ now)).isEmpty then some (.slice none 0 0, H) else
                some (.slice (some ⟨H.n, 0, none⟩) (ks.filter fun k => decide (k.2 ≤ now)).length (2 * (ks.filter fun k => decide (k.2 ≤ now)).length + 1), H.push (.cells ((sortE (ks.filter fun k => decide (k.2 ≤ now))).map fun k => .string ⟨k.1.toArray⟩) 9 true))) else none
            | none => none)
          | _ => none)
        | _ => none)
      | _ => none)
    | _ => none)
  | _ => none
def nextP : List Value → AHeap → Res := fun args H => match args with
  | [.pointer none] => some (.int .i64 0, H)
  | [.pointer (some ⟨b, o, none⟩)] => (match H.f b with
    | .cells xs _ _ => (match xs[o + 1]? with
      | some (.map none) => some (.int .i64 0, H)
      | some (.map (some mb)) => (match xs[o + 2]? with
        | some (.int .i64 now) => (match H.f mb with
          | .map es => (match entS es with
            | some ks => if es.length ≤ 1000000 then some (.int .i64 (minE now ks), H) else none
            | none => none)
          | _ => none)
        | _ => none)
      | _ => none)
    | _ => none)
  | _ => none
def copyP : List Value → AHeap → Res := fun args H => match args with
  | [.pointer none] => some (.pointer none, H)
  | _ => none

/-! ### sorting -/
theorem insE_perm (x : List UInt8 × Int) : ∀ l, (insE x l).Perm (x :: l)
  | [] => .refl _
  | y :: l => by
    unfold insE
    split
    · exact ((insE_perm x l).cons y).trans (.swap x y l)
    · exact .refl _
theorem sortE_perm : ∀ l, (sortE l).Perm l
  | [] => .refl _
  | x :: l => (insE_perm x _).trans ((sortE_perm l).cons x)
theorem befB_iff (a b : List UInt8 × Int) : befB a b = true ↔ a.2 < b.2 ∨ (a.2 = b.2 ∧ a.1 < b.1) := by
  unfold befB
  rw [less_lt]
  simp
theorem befB_asym {a b : List UInt8 × Int} (h : befB a b = true) : ¬ befB b a = true := fun k => by
  rw [befB_iff] at h k
  rcases h with h | ⟨h, h'⟩
  · rcases k with k | ⟨k, _⟩ <;> omega
  · rcases k with k | ⟨_, k'⟩
    · omega
    · exact absurd (List.lt_trans h' k') (List.lt_irrefl _)
theorem befB_nt {a b c : List UInt8 × Int} (h : ¬ befB b a = true) (k : ¬ befB c b = true) : ¬ befB c a = true := fun x => by
  rw [befB_iff] at h k x
  have h1 : ¬ b.2 < a.2 := fun e => h (.inl e)
  have k1 : ¬ c.2 < b.2 := fun e => k (.inl e)
  rcases x with x | ⟨x, x'⟩
  · omega
  · have e1 : b.2 = a.2 := by omega
    have e2 : c.2 = b.2 := by omega
    have h2 : ¬ b.1 < a.1 := fun e => h (.inr ⟨e1, e⟩)
    have k2 : ¬ c.1 < b.1 := fun e => k (.inr ⟨e2, e⟩)
    have := List.le_trans (List.not_lt.1 h2) (List.not_lt.1 k2)
    exact absurd x' (List.not_lt.2 this)
theorem insE_sorted (x : List UInt8 × Int) : ∀ l, l.Pairwise (fun a b => ¬ befB b a = true) → (insE x l).Pairwise (fun a b => ¬ befB b a = true)
  | [], _ => by simp [insE]
  | y :: l, h => by
    have hy := List.pairwise_cons.1 h
    unfold insE
    split
    · rename_i hlt
      refine List.pairwise_cons.2 ⟨fun z hz => ?_, insE_sorted x l hy.2⟩
      rcases List.mem_cons.1 ((insE_perm x l).mem_iff.1 hz) with rfl | hz
      · exact befB_asym hlt
      · exact hy.1 z hz
    · rename_i hlt
      refine List.pairwise_cons.2 ⟨fun z hz => ?_, h⟩
      rcases List.mem_cons.1 hz with rfl | hz
      · exact hlt
      · exact befB_nt hlt (hy.1 z hz)
theorem sortE_sorted : ∀ l, (sortE l).Pairwise (fun a b => ¬ befB b a = true)
  | [] => .nil
  | x :: l => insE_sorted x _ (sortE_sorted l)

/-! ### the map, as the kit reads it -/
theorem entS_some : ∀ {es : List (Value × Value)} {ks : List (List UInt8 × Int)}, entS es = some ks → es = ks.map (fun k => (Value.string ⟨k.1.toArray⟩, Value.int .i64 k.2)) ∧ ∀ k ∈ ks, k.1.length ≤ 1000 ∧ 0 < k.2 ∧ k.2 ≤ 4611686018427387904
  | [], ks, h => by cases h; exact ⟨rfl, by simp⟩
  | p :: l, ks, h => by
    unfold entS at h
    split at h
    · rename_i e; cases e
    · rename_i b n l' e
      cases e
      split at h
      · rename_i hb
        simp only [Bool.and_eq_true, decide_eq_true_eq] at hb
        obtain ⟨m, h3, rfl⟩ := Option.map_eq_some_iff.1 h
        obtain ⟨a1, a2⟩ := entS_some h3
        refine ⟨by rw [List.map_cons, ← a1], fun z hz => ?_⟩
        rcases List.mem_cons.1 hz with rfl | hz
        · exact ⟨by simpa using hb.1, hb.2⟩
        · exact a2 z hz
      · cases h
    · cases h
theorem rv_int {ι : Emb} {n : Int} {v : Value} (h : RV ι (.int .i64 n) v) : v = .int .i64 n := by cases h; rfl

theorem own_of {B : Nat} {ι : Eng.Emb} {w : World} {L : Eng.Loc} {es : List (Value × Value)} {ks : List (List UInt8 × Int)} (h : RB Try.prog B ι w L (.map es)) (hk : entS es = some ks) (hlen : es.length ≤ 1000000) :
    ∃ (n : Nat) (D0 : DataW Unit), w.ownsMap Try.prog 9 RI L.cb n D0 ∧ (strKeys D0).Perm (ks.map (·.1)) ∧ (∀ k ∈ ks, numD D0 k.1 = k.2) ∧ Maps.size D0 ≤ 1000000 ∧ ∀ x, has D0 (.string x) = true → ∃ k ∈ ks, k.1 = x := by
  obtain ⟨hB, ents, clock, hwm, hmr⟩ := h
  obtain ⟨hk1, hk2⟩ := entS_some hk
  have hkeyOf : ∀ s : List UInt8, s.length ≤ 1000 → keyOf Try.prog 9 (.string ⟨s.toArray⟩) = some (.string s) := fun s hs => by
    have := Go.WideMaps.keyOf_string_mk (P := Try.prog) (k := 9) Try.underlying9 (s := ⟨s.toArray⟩) (by show s.length ≤ maxLen; unfold maxLen; omega)
    simpa using this
  have hval : ∀ x ∈ ents.toList, ∃ k ∈ ks, x.key = .string ⟨k.1.toArray⟩ ∧ x.val = .int .i64 k.2 := fun x hx => by
    obtain ⟨p, hp, he⟩ := hmr.bwd x hx
    rw [hk1] at hp
    obtain ⟨k, hkm, rfl⟩ := List.mem_map.1 hp
    obtain ⟨x', hx', ex', rv⟩ := hmr.fwd _ (by rw [hk1]; exact List.mem_map.2 ⟨k, hkm, rfl⟩)
    have hck := hmr.ckeys
    rw [List.Nodup, List.pairwise_map] at hck
    have : x' = x := entry_eq_of_key hck hx' hx (by rw [ex', ← he])
    subst this
    exact ⟨k, hkm, he.symm, rv_int rv⟩
  have hRI : ∀ k ∈ ks, RI (.int .i64 k.2) = some (.lit (.int .i64 k.2), []) := fun k hkm => plainElem_int Try.underlying3 (by have := hk2 k hkm; simp [Lit.wf, IntKind.min, IntKind.max, IntKind.signed, IntKind.bits]; omega)
  have hrd : ∀ x ∈ ents.toList, ∀ k ∈ ks, x.key = .string ⟨k.1.toArray⟩ → x.val = .int .i64 k.2 → WideElems.rd Try.prog 9 RI x = some (.string k.1, .lit (.int .i64 k.2)) := fun x hx k hkm e1 e2 => by
    have h1 := hkeyOf k.1 (hk2 k hkm).1
    rw [← e1] at h1
    have h2 := hRI k hkm
    rw [← e2] at h2
    simp [WideElems.rd, h1, h2]
  have hfit : WideElems.Fit Try.prog 9 RI ents clock := ⟨by have := hmr.len; unfold maxLen; omega, ⟨hmr.clk, hmr.born, hmr.ckeys⟩, fun x hx => by obtain ⟨k, hkm, e1, e2⟩ := hval x hx; exact ⟨_, hrd x hx k hkm e1 e2⟩⟩
  obtain ⟨D0, hD0⟩ : ∃ D0 : DataW Unit, D0 = .map ((ents.toList.map (WideElems.rg Try.prog 9 RI)).foldr DataW.insert []) := ⟨_, rfl⟩
  have hown : w.ownsMap Try.prog 9 RI L.cb ents.size D0 := ⟨ents, clock, hwm, hfit, Nat.le_refl _, hD0⟩
  have hinj : ∀ s s' : List UInt8, Value.string ⟨s.toArray⟩ = Value.string ⟨s'.toArray⟩ → s = s' := fun s s' e => by simpa using e
  have hnd : (ks.map (·.1)).Nodup := by
    have := hmr.keys
    rw [hk1, List.map_map, List.Nodup, List.pairwise_map] at this
    rw [List.Nodup, List.pairwise_map]
    exact this.imp fun h e => h (by simp [e])
  have hnum : ∀ k ∈ ks, numD D0 k.1 = k.2 := fun k hkm => by
    obtain ⟨x, hx, ex, rv⟩ := hmr.fwd _ (by rw [hk1]; exact List.mem_map.2 ⟨k, hkm, rfl⟩)
    rcases Maps.fit_look false law9 Try.underlying27 (Try.zeroValue3 w) hwm hfit (hkeyOf k.1 (hk2 k hkm).1) with ⟨_, h2, _⟩ | ⟨e0, y, h1, h2, _, h4, h5, _⟩
    · exact absurd ex (h2 x hx)
    · obtain ⟨k', hk', e1, e2⟩ := hval e0 h1
      have : k'.1 = k.1 := hinj _ _ (by rw [← e1, h2])
      have hck := hmr.ckeys
      rw [List.Nodup, List.pairwise_map] at hck
      have hxe : e0 = x := entry_eq_of_key hck h1 hx (by rw [h2, ex])
      subst hxe
      rw [rv_int rv] at h4
      rw [hRI k hkm] at h4
      cases h4
      unfold numD
      rw [hD0, h5]
  refine ⟨ents.size, D0, hown, ?_, hnum, ?_, fun x hx => ?_⟩
  · rw [hD0]
    show ((((ents.toList.map (WideElems.rg Try.prog 9 RI)).foldr DataW.insert [])).map fun p => Go.strOf p.1).Perm (ks.map (·.1))
    refine ((Go.WideShapes.sorted_perm _).map _).trans ?_
    rw [List.map_map]
    have hst : ∀ x ∈ ents.toList, ∀ k ∈ ks, x.key = .string ⟨k.1.toArray⟩ → x.val = .int .i64 k.2 → ((fun p : Lit × DataW Unit => Go.strOf p.1) ∘ WideElems.rg Try.prog 9 RI) x = k.1 := fun x hx k hkm e1 e2 => by
      have := hrd x hx k hkm e1 e2
      simp [WideElems.rg, this, Go.strOf]
    have nd1 : (ents.toList.map ((fun p : Lit × DataW Unit => Go.strOf p.1) ∘ WideElems.rg Try.prog 9 RI)).Nodup := by
      rw [List.Nodup, List.pairwise_map]
      have hck := hmr.ckeys
      rw [List.Nodup, List.pairwise_map] at hck
      refine hck.imp_of_mem fun {x y} hx hy hne => ?_
      obtain ⟨k, hkm, e1, e2⟩ := hval x hx
      obtain ⟨k', hkm', e1', e2'⟩ := hval y hy
      rw [hst x hx k hkm e1 e2, hst y hy k' hkm' e1' e2']
      intro he
      rw [e1, e1', he] at hne
      exact hne rfl
    refine (List.perm_ext_iff_of_nodup nd1 hnd).2 fun s => ?_
    constructor
    · intro h
      obtain ⟨x, hx, rfl⟩ := List.mem_map.1 h
      obtain ⟨k, hkm, e1, e2⟩ := hval x hx
      rw [hst x hx k hkm e1 e2]
      exact List.mem_map_of_mem hkm
    · intro hs
      obtain ⟨k, hkm, rfl⟩ := List.mem_map.1 hs
      obtain ⟨x, hx, ex, rv⟩ := hmr.fwd _ (by rw [hk1]; exact List.mem_map.2 ⟨k, hkm, rfl⟩)
      exact List.mem_map.2 ⟨x, hx, hst x hx k hkm ex (rv_int rv)⟩
  · rw [hD0]
    show (((ents.toList.map (WideElems.rg Try.prog 9 RI)).foldr DataW.insert [])).length ≤ _
    rw [(Go.WideShapes.sorted_perm _).length_eq]
    have := hmr.len
    simp; omega
  · rw [hD0] at hx
    have hx : (((ents.toList.map (WideElems.rg Try.prog 9 RI)).foldr DataW.insert [])).any (fun p => p.1.sameKey (.string x)) = true := hx
    obtain ⟨p, hp, hs⟩ := List.any_eq_true.1 hx
    have hp := (Go.WideShapes.sorted_perm _).mem_iff.1 hp
    obtain ⟨e, he, rfl⟩ := List.mem_map.1 hp
    obtain ⟨k, hkm, e1, e2⟩ := hval e he
    have := hrd e he k hkm e1 e2
    refine ⟨k, hkm, ?_⟩
    simp [WideElems.rg, this, Lit.sameKey] at hs
    exact hs

end Go.Proofs.Ythjjkinpbpealaa

/-
  Chapter 45: waiting, Next (and Copy of nil) as prims: the proofs.
  Conditions: none. By an AI agent.
-/
set_option linter.unusedSimpArgs false
set_option linter.unusedVariables false
namespace Go.Proofs.Ythjjkinpbpealaa
open Go Eng Go.Maps

theorem Eng.Rel.pushB {P : Program} {B : Nat} {ι : Emb} {H : AHeap} {w w' : World} (r : Rel P B ι H w) (hbl : RowKit.Below w.heap.size w w') (k : Blk) (L : Eng.Loc) (h1 : w.heap.size ≤ L.cb) (h2 : L.cb < w'.heap.size) (hk : RB P B ι w' L k) :
    Rel P B (up ι H.n L) (H.push k) w' ∧ Stp ι H w (up ι H.n L) (H.push k) w' := by
  refine ⟨r.lay k L h2 hbl.size hk (fun b M h _ => by have := (r.lt b M h).2; omega) (by have := r.base; omega) (fun c hc _ => hbl.block c hc), ?_⟩
  constructor
  · intro b hb; simp [up, show b ≠ H.n by omega]
  · simp
  · exact hbl.size
  · exact hbl.os
  · exact hbl.tape
  · exact hbl.output
  · intro c hc _; exact hbl.block c hc
  · intro b M hb h
    by_cases hbn : b = H.n
    · simp [up, hbn] at h
      subst h
      exact .inl h1
    · simp [up, hbn] at h
      have := (r.lt b M h).1
      omega
  · intro b _ hb _ ho
    rwa [AHeap.push_old _ _ (by omega)] at ho
  · exact VO.push _ _

theorem rows_ok {H : AHeap} (hl : Eng.Cl H) {n c : Nat} {ks : List (List UInt8 × Int)} : OkV H (H.push (.cells (ks.map fun k => .string ⟨k.1.toArray⟩) 9 true)) (.slice (some ⟨H.n, 0, none⟩) n c) := by
  refine ⟨hl.push (fun xs e rw hk v hv => ?_) (fun es hk => by cases hk), .sl (by simp), VO.push _ _⟩
  cases hk
  obtain ⟨s, _, rfl⟩ := List.mem_map.1 hv
  exact .str _

theorem minE_spec (now : Int) : ∀ {ks : List (List UInt8 × Int)}, (∀ k ∈ ks, 0 < k.2) → (minE now ks = 0 ∧ ∀ k ∈ ks, k.2 ≤ now) ∨ ((∃ k ∈ ks, ¬ k.2 ≤ now ∧ minE now ks = k.2) ∧ ∀ k ∈ ks, ¬ k.2 ≤ now → minE now ks ≤ k.2)
  | [], _ => .inl ⟨rfl, by simp⟩
  | k :: l, h => by
    have ih := minE_spec now (ks := l) fun k hk => h k (by simp [hk])
    have h0 := h k (by simp)
    unfold minE
    by_cases h1 : k.2 ≤ now
    · rw [if_pos (decide_eq_true h1)]
      rcases ih with ⟨a, b⟩ | ⟨⟨k', a, b, c⟩, d⟩
      · exact .inl ⟨a, fun z hz => by
          rcases List.mem_cons.1 hz with rfl | hz
          · exact h1
          · exact b z hz⟩
      · exact .inr ⟨⟨k', by simp [a], b, c⟩, fun z hz hn => by
          rcases List.mem_cons.1 hz with rfl | hz
          · exact absurd h1 hn
          · exact d z hz hn⟩
    · rw [if_neg (by simpa using h1)]
      rcases ih with ⟨a, b⟩ | ⟨⟨k', a, b, c⟩, d⟩
      · rw [a]
        simp only [decide_true, Bool.true_or, if_true]
        exact .inr ⟨⟨k, by simp, h1, rfl⟩, fun z hz hn => by
          rcases List.mem_cons.1 hz with rfl | hz
          · exact Int.le_refl _
          · exact absurd (b z hz) hn⟩
      · have hp := h k' (by simp [a])
        by_cases h2 : k.2 < minE now l
        · rw [if_pos (by simp [h2])]
          exact .inr ⟨⟨k, by simp, h1, rfl⟩, fun z hz hn => by
            rcases List.mem_cons.1 hz with rfl | hz
            · exact Int.le_refl _
            · have := d z hz hn; omega⟩
        · rw [if_neg (by simp; omega)]
          exact .inr ⟨⟨k', by simp [a], b, c⟩, fun z hz hn => by
            rcases List.mem_cons.1 hz with rfl | hz
            · omega
            · exact d z hz hn⟩

theorem endD_of {D0 : DataW Unit} {ks : List (List UInt8 × Int)} {now : Int} (hnum : ∀ k ∈ ks, numD D0 k.1 = k.2) (hpos : ∀ k ∈ ks, 0 < k.2) : ∀ k ∈ ks, endD D0 now k.1 = decide (k.2 ≤ now) := fun k hk => by
  unfold endD
  rw [hnum k hk]
  simp [hpos k hk]

theorem wait_eq {D0 : DataW Unit} {ks : List (List UInt8 × Int)} {now : Int} {ss : List (List UInt8)} (hnum : ∀ k ∈ ks, numD D0 k.1 = k.2) (hpos : ∀ k ∈ ks, 0 < k.2) (hperm : (strKeys D0).Perm (ks.map (·.1))) (h1 : ss.Perm ((strKeys D0).filter (endD D0 now))) (h2 : ss.Pairwise (fun x y => ¬ befP (numD D0) y x)) :
    ss = (sortE (ks.filter fun k => decide (k.2 ≤ now))).map (·.1) := by
  have hf : (ks.map (·.1)).filter (endD D0 now) = (ks.filter fun k => decide (k.2 ≤ now)).map (·.1) := by
    rw [List.filter_map]
    congr 1
    exact List.filter_congr fun k hk => endD_of hnum hpos k hk
  have hp : ss.Perm ((sortE (ks.filter fun k => decide (k.2 ≤ now))).map (·.1)) := by
    refine h1.trans ((hperm.filter _).trans ?_)
    rw [hf]
    exact ((sortE_perm _).map _).symm
  refine List.Perm.eq_of_pairwise (le := fun x y => ¬ befP (numD D0) y x) (fun a b _ _ x y => bef_tot _ y x) h2 ?_ hp
  rw [List.pairwise_map]
  refine (sortE_sorted _).imp_of_mem fun {a b} ha hb h k => h ?_
  have ma := (List.mem_filter.1 ((sortE_perm _).mem_iff.1 ha)).1
  have mb := (List.mem_filter.1 ((sortE_perm _).mem_iff.1 hb)).1
  rw [befB_iff]
  unfold befP at k
  rwa [hnum a ma, hnum b mb] at k

set_option maxHeartbeats 1000000 in
theorem wait_prim : (CallAd fun _ args H => waitP args H) ∧ CallOK Try.prog fun h args H => if h = 34 then waitP args H else none := by
  constructor
  · intro _ args H v H' h hl _
    replace h : waitP args H = some (v, H') := h
    unfold waitP at h
    split at h
    · split at h
      · split at h
        · cases h; exact OkV.still hl .nils
        · split at h
          · split at h
            · split at h
              · split at h
                · split at h
                  · cases h; exact OkV.still hl .nils
                  · cases h; exact rows_ok hl
                · cases h
              · cases h
            · cases h
          · cases h
        · cases h
      · cases h
    · cases h
  · intro k args H v H' h2 hl had B ι w args' r ha
    by_cases hg : k = 34
    · subst hg
      simp only [if_true] at h2
      unfold waitP at h2
      split at h2
      · rename_i b0 o
        split at h2
        · rename_i xs e rw hf
          cases ha with
          | cons a b =>
            cases b
            cases a with
            | ptr hL =>
              rename_i L
              have hb := r.blk _ _ hL
              rw [hf] at hb
              obtain ⟨cs, e', fr, hw, hsz, hle, hcs, _⟩ := hb
              split at h2
              · rename_i hx
                cases h2
                obtain ⟨v', hv', hrv⟩ := hcs _ _ hx
                cases hrv
                have hcell : w.cell? ⟨L.cb, L.base + o + 1, none⟩ = some (.map none) := by simp [World.cell?, hw, hv', Nat.add_assoc]
                refine Calls.mono (waiting_nilmap _ _ w hcell) ?_
                rintro e w' ⟨rfl, hbl⟩
                obtain ⟨r', s'⟩ := below_rel r hbl
                exact ⟨_, ι, rfl, .nils, r', s'⟩
              · rename_i mb hx
                obtain ⟨v', hv', hrv⟩ := hcs _ _ hx
                split at h2
                · rename_i now hxn
                  obtain ⟨vn, hvn, hrn⟩ := hcs _ _ hxn
                  cases hrn
                  have hcn : w.cell? ⟨L.cb, L.base + o + 2, none⟩ = some (.int .i64 now) := by simp [World.cell?, hw, hvn, Nat.add_assoc]
                  cases hrv with
                  | map hM =>
                    rename_i M
                    have hcell : w.cell? ⟨L.cb, L.base + o + 1, none⟩ = some (.map (some M.cb)) := by simp [World.cell?, hw, hv', Nat.add_assoc]
                    split at h2
                    · rename_i es hfm
                      have hm := r.blk _ _ hM
                      rw [hfm] at hm
                      split at h2
                      · rename_i ks hks
                        split at h2
                        · rename_i hlen
                          obtain ⟨n, D0, hown, hperm, hnum, hsize, _⟩ := own_of hm hks hlen
                          have hpos : ∀ k ∈ ks, 0 < k.2 := fun k hk => ((entS_some hks).2 k hk).2.1
                          refine Calls.mono (waiting_any _ _ M.cb n now D0 w hcell hcn hown hsize) ?_
                          rintro e w' ⟨v2, ss, rfl, hp2, hst, hrow, hnil, hbl⟩
                          have hss := wait_eq hnum hpos hperm hp2 hst
                          obtain ⟨r', s'⟩ := below_rel r hbl
                          obtain ⟨fs, hfs⟩ : ∃ fs, (ks.filter fun k => decide (k.2 ≤ now)) = fs := ⟨_, rfl⟩
                          rw [hfs] at h2 hss
                          have hsl : (sortE fs).length = fs.length := (sortE_perm fs).length_eq
                          have hlen2 : ss.length = fs.length := by rw [hss, List.length_map, hsl]
                          split at h2
                          · rename_i hke
                            cases h2
                            have hk0 : fs = [] := by cases fs with | nil => rfl | cons a b => cases hke
                            have hs0 : ss = [] := List.length_eq_zero_iff.1 (by rw [hlen2, hk0]; rfl)
                            have hv0 := hnil.2 hs0
                            subst hv0
                            exact ⟨_, ι, rfl, .nils, r', s'⟩
                          · rename_i hke
                            cases h2
                            have hs0 : ss ≠ [] := fun h => hke (by rw [h] at hlen2; rw [List.length_eq_zero_iff.1 hlen2.symm]; rfl)
                            rcases hrow.2 with ⟨hv0, _⟩ | ⟨g, cap, cur, rfl, hbase, hgb, h1, h2', h3, h4⟩
                            · exact absurd (hnil.1 hv0) hs0
                            have hcell9 : Try.prog.cellsOf 9 = 1 := by kernel_rfl
                            have hgl : g < w'.heap.size := (Array.getElem?_eq_some_iff.1 hgb).1
                            have hRB : RB Try.prog B ι w' ⟨g, 0, 1, cap⟩ (.cells ((sortE fs).map fun k => .string ⟨k.1.toArray⟩) 9 true) := by
                              refine ⟨cur, 9, (0, 0), hgb, by show cur.size = cap; omega, by show 0 + _ ≤ _; simp; omega, fun i v hv => ?_, fun _ => ⟨by have := r.base; show B ≤ g; omega, rfl, hcell9.symm, fun j _ => by simp⟩⟩
                              have hi : i < (sortE fs).length := by have := (List.getElem?_eq_some_iff.1 hv).1; simpa using this
                              have h4' := congrArg (fun l => l[i]?) h4
                              simp only [List.getElem?_take_of_lt (show i < ss.length * 1 by omega)] at h4'
                              have e1 : (Go.Proofs.encStr (sortE fs)[i].1) = v := by
                                rw [List.getElem?_map, List.getElem?_eq_getElem hi] at hv
                                exact Option.some.inj hv
                              refine ⟨v, ?_, ?_⟩
                              · show cur[0 + i]? = some v
                                rw [Nat.zero_add, ← Array.getElem?_toList, h4', List.getElem?_map, hss, List.getElem?_map, List.getElem?_eq_getElem hi]
                                exact congrArg some e1
                              · rw [← e1]; exact .str _
                            obtain ⟨r2, s2⟩ := r.pushB hbl (.cells ((sortE fs).map fun k => .string ⟨k.1.toArray⟩) 9 true) ⟨g, 0, 1, cap⟩ (by show w.heap.size ≤ g; omega) hgl hRB
                            refine ⟨_, _, rfl, ?_, r2, s2⟩
                            rw [hlen2]
                            exact .sli (L := ⟨g, 0, 1, cap⟩) (by simp [up]) (by omega) (by omega) (by simp)
                        · cases h2
                      · cases h2
                    · cases h2
                · cases h2
              · cases h2
        · cases h2
      · cases h2
    · simp [hg] at h2

set_option maxHeartbeats 1000000 in
theorem next_prim : (CallAd fun _ args H => nextP args H) ∧ CallOK Try.prog fun h args H => if h = 28 then nextP args H else none := by
  constructor
  · intro _ args H v H' h hl _
    replace h : nextP args H = some (v, H') := h
    unfold nextP at h
    split at h
    · cases h; exact OkV.still hl (.int _ _)
    · split at h
      · split at h
        · cases h; exact OkV.still hl (.int _ _)
        · split at h
          · split at h
            · split at h
              · split at h
                · cases h; exact OkV.still hl (.int _ _)
                · cases h
              · cases h
            · cases h
          · cases h
        · cases h
      · cases h
    · cases h
  · intro k args H v H' h2 hl had B ι w args' r ha
    by_cases hg : k = 28
    · subst hg
      simp only [if_true] at h2
      unfold nextP at h2
      split at h2
      · cases h2
        cases ha with
        | cons a b =>
          cases a
          cases b
          refine Calls.mono (next_nilptr w) ?_
          rintro e w' ⟨rfl, rfl⟩
          exact ⟨_, ι, rfl, .int _ _, r, Stp.refl _ _ _ r.dom⟩
      · rename_i b0 o
        split at h2
        · rename_i xs e rw hf
          cases ha with
          | cons a b =>
            cases b
            cases a with
            | ptr hL =>
              rename_i L
              have hb := r.blk _ _ hL
              rw [hf] at hb
              obtain ⟨cs, e', fr, hw, hsz, hle, hcs, _⟩ := hb
              split at h2
              · rename_i hx
                cases h2
                obtain ⟨v', hv', hrv⟩ := hcs _ _ hx
                cases hrv
                have hcell : w.cell? ⟨L.cb, L.base + o + 1, none⟩ = some (.map none) := by simp [World.cell?, hw, hv', Nat.add_assoc]
                refine Calls.mono (next_nilmap _ _ w hcell) ?_
                rintro e w' ⟨rfl, hbl⟩
                obtain ⟨r', s'⟩ := below_rel r hbl
                exact ⟨_, ι, rfl, .int _ _, r', s'⟩
              · rename_i mb hx
                obtain ⟨v', hv', hrv⟩ := hcs _ _ hx
                split at h2
                · rename_i now hxn
                  obtain ⟨vn, hvn, hrn⟩ := hcs _ _ hxn
                  cases hrn
                  have hcn : w.cell? ⟨L.cb, L.base + o + 2, none⟩ = some (.int .i64 now) := by simp [World.cell?, hw, hvn, Nat.add_assoc]
                  cases hrv with
                  | map hM =>
                    rename_i M
                    have hcell : w.cell? ⟨L.cb, L.base + o + 1, none⟩ = some (.map (some M.cb)) := by simp [World.cell?, hw, hv', Nat.add_assoc]
                    split at h2
                    · rename_i es hfm
                      have hm := r.blk _ _ hM
                      rw [hfm] at hm
                      split at h2
                      · rename_i ks hks
                        split at h2
                        · rename_i hlen
                          obtain ⟨n, D0, hown, hperm, hnum, hsize, hhas⟩ := own_of hm hks hlen
                          have hpos : ∀ k ∈ ks, 0 < k.2 := fun k hk => ((entS_some hks).2 k hk).2.1
                          cases h2
                          refine Calls.mono (next_any _ _ M.cb n now D0 w hcell hcn hown (fun x hx => by
                            obtain ⟨k, hk, rfl⟩ := hhas x hx
                            rw [hnum k hk]
                            exact hpos k hk)) ?_
                          rintro e w' ⟨m, rfl, hmin, hbl⟩
                          obtain ⟨r', s'⟩ := below_rel r hbl
                          have hm : m = minE now ks := by
                            have hsp := minE_spec now hpos
                            have hE := endD_of (now := now) hnum hpos
                            have mem : ∀ k ∈ ks, k.1 ∈ strKeys D0 := fun k hk => hperm.mem_iff.2 (List.mem_map_of_mem hk)
                            have mem' : ∀ s ∈ strKeys D0, ∃ k ∈ ks, k.1 = s := fun s hs => by
                              obtain ⟨k, hk, e⟩ := List.mem_map.1 (hperm.mem_iff.1 hs)
                              exact ⟨k, hk, e⟩
                            rcases hmin with ⟨h1, h2⟩ | ⟨⟨s, h1, h2, h3⟩, h4⟩
                            · rcases hsp with ⟨a, _⟩ | ⟨⟨k, a, b, _⟩, _⟩
                              · rw [h1, a]
                              · have := h2 _ (mem k a)
                                rw [hE k a] at this
                                exact absurd (of_decide_eq_true this) b
                            · obtain ⟨k0, hk0, rfl⟩ := mem' s h1
                              rw [hE k0 hk0] at h2
                              rw [hnum k0 hk0] at h3
                              have hn0 := of_decide_eq_false h2
                              rcases hsp with ⟨_, b⟩ | ⟨⟨k, a, b, c⟩, d⟩
                              · exact absurd (b k0 hk0) hn0
                              · have q1 := d k0 hk0 hn0
                                have q2 := h4 _ (mem k a) (by rw [hE k a]; exact decide_eq_false b)
                                rw [hnum k a] at q2
                                omega
                          subst hm
                          exact ⟨_, ι, rfl, .int _ _, r', s'⟩
                        · cases h2
                      · cases h2
                    · cases h2
                · cases h2
              · cases h2
        · cases h2
      · cases h2
    · simp [hg] at h2

theorem copy_prim : (CallAd fun _ args H => copyP args H) ∧ CallOK Try.prog fun h args H => if h = 26 then copyP args H else none := by
  constructor
  · intro _ args H v H' h hl _
    replace h : copyP args H = some (v, H') := h
    unfold copyP at h
    split at h
    · cases h; exact OkV.still hl .nilp
    · cases h
  · intro k args H v H' h2 hl had B ι w args' r ha
    by_cases hg : k = 26
    · subst hg
      simp only [if_true] at h2
      unfold copyP at h2
      split at h2
      · cases h2
        cases ha with
        | cons a b =>
          cases a
          cases b
          refine Calls.mono (copy_nilptr w) ?_
          rintro e w' ⟨rfl, rfl⟩
          exact ⟨_, ι, rfl, .nilp, r, Stp.refl _ _ _ r.dom⟩
      · cases h2
    · simp [hg] at h2

end Go.Proofs.Ythjjkinpbpealaa

/-
  The hints: which temporaries are asked for behind each if, block, loop head, return of each function (a program of ours printed it).
  Conditions: none. By an AI agent.
-/
namespace Go.Proofs.Ythjjkinpbpealaa
open Go Eng

def hintList : List (List (List Nat)) := [
  [],
  [],
  [],
  [[0,1],[4],[0,1,5],[0,1,5,6],[0,1,5,6],[0,1,5,6],[0,1,5,6,7,8],[0,1,5,6],[4],[5,9,10],[4],[4]],
  [[0],[2],[],[0,3,4,5,6],[0,3,4,5,6],[0,3,4,5,6],[0,3,4,5,6,7,8,9],[0,3,4,5,6,7,8,9],[0,3,4,5,6,7,8,9,10],[0,3,4,5,6,7,8,9],[0,3,4,5,6,7,8,9],[0,3,4,5,6,7,8,9,11,13],[2],[0,3,4,5,6,7,8,9,11],[0,3,4,5,6,7,8,9,11,13,14],[0,3,4,5,6,7,8,9,11,13,14],[0,3,4,5,6,7,8,9,11,13,14],[0,3,4,5,6,7,8,9,11,13,14],[2],[0,3,4,5,6,7,8,9],[0,3,4,5,6,7,8,9,11,15],[0,3,4,5,6,7,8,9,11,15],[0,3,4,5,6,7,8,9,11,15],[0,3,4,5,6,7,8,9,11,15],[2],[0,3,4,5,6,7,9],[2],[0,3,4,5,6],[0,3,4,5,6,7,9,16],[0,3,4,5,6,7,9,16],[0,3,4,5,6,7,9,16],[0,3,4,5,6,7,9,16],[0,3,4,5,6],[0,3,4,5,6,20],[0,3,4,5,6,20],[0,3,4,5,6,20],[0,3,4,5,6,20],[2],[2]],
  [[0],[2],[],[0,3,4,5],[0,3,4,5],[0,3,4,5],[0,3,4,5,7],[0,3,4,5,7],[0,3,4,5,7],[0,3,4,5,6],[0,3,4,5,6,8],[0,3,4,5,6,8,9],[0,3,4,5,6,8,9],[0,3,4,5,6,8,9],[0,3,4,5,7],[0,3,4,5,6,10],[0,3,4,5],[2],[2]],
  [[1],[2],[1,3],[1,3,4],[1,3,4],[1,3,4],[1,3,4],[2],[2]],
  [[1],[0],[1],[0],[0]],
  [[0,1,2,3],[0,1,2,3],[8],[0,1,2,3],[8],[0,1,2,3],[8],[0,1,2,3],[8],[0,1,3],[8],[8]],
  [[0,1],[0,1],[4],[0,1],[4],[0,1],[4],[4]],
  [[0],[2],[2]],
  [[0],[2],[2]],
  [[0,1],[0,1],[4,5],[0,1],[4,5],[6],[0,6,23,24,25],[0,6,23,24,25],[0,6,23,24,25],[4,5]],
  [[1],[2],[2]],
  [[0,1],[0,1,5],[0,1,5],[0,1,5],[0,1,5],[4],[4]],
  [[0,3],[0,3],[4],[0,3],[4],[0,3],[4],[4]],
  [[0],[2],[2]],
  [[0,1],[4,5,6],[0,1],[4,5,6],[0,1,8],[4,5,6],[4,5,6]],
  [[0,3],[4],[0,3],[0,3],[4],[4],[0,3],[0,3],[4],[],[],[4],[],[4],[],[],[4]],
  [[2,9],[8],[],[2,9,11],[2,9,11],[2,9,11],[2,9,11],[8],[8]],
  [[3],[0,3,4],[0,3,4],[0,3,4],[0,3,4],[0,3,4,5,6],[0,3,4,5,6],[0,3,4,5,6],[0,3,4,5,6],[8],[3,8,9],[3,8,9],[3,8,9],[2]],
  [[0,1],[4],[4]],
  [[],[0,1,5],[0,1,5],[0,1,5],[0,1,5],[4],[4]],
  [[],[],[4],[],[4],[4]],
  [[4]],
  [[10]],
  [[0],[2],[3],[3,24],[3,24],[3,24],[2]],
  [[0,1],[4],[0,5,6],[0,1,5,6,7],[0,1,5,6,7],[0,1,5,6,7],[0,1,5,6,7,8],[0,1,5,6,7],[4],[0,1,5,6,7,8],[0,1,5,6,7],[4],[0,5],[0,5,6,9],[0,5,6,9],[0,5,6,9],[0,5,6,9,10],[4],[0,5,6,9],[0,5,6,9,10,11],[0,5,6,9,10,11],[0,5,6,9,10,11],[0,5,6,9,10,11],[4],[4]],
  [[0],[2],[3],[0,3,12],[0,3,12],[0,3,12],[0,3,12],[2]],
  [[0,1,2],[0,1,2],[6],[0,1,2],[6],[0,1,2],[6],[0,1,2],[6],[0,1,2],[6],[6]],
  [[0,1],[4],[4]],
  [[4]],
  [[0,1,2,7,8],[6],[6]],
  [[0,1,2],[]],
  [[1,3],[1,3,9],[1,3,9],[1,3,9],[1,3,9],[2]],
  [[0],[2],[2]],
  [[0,1,6],[4,5],[4,5]],
  [[0,1,5],[4],[0,5],[0,1,5,6],[0,1,5,6],[0,1,5,6],[0,1,5,6],[4]],
  [[0],[2],[2]],
  [[3]],
  [[4]],
  [[0,6],[0,6],[4,5],[0,6],[4,5],[4,5]],
  [[0,3,4,5],[0,3,4,5],[0,3,4,5],[0,3,4,5]],
  [[0],[2],[2]],
  [[0,1,2],[6,7,8],[0,1],[6,7,8],[6,7,8]],
  [[],[],[],[8],[8]],
  [],
  [[5]],
  [[3],[3,6,7,8],[3,6,7,8],[3,6,7,8],[3,6,7,8],[2],[2]],
  [[0,1,6],[],[4],[4],[0,1],[4],[0,1],[4],[],[4],[4]],
  [[0,1,6],[],[4],[4],[0,1],[4],[0,1],[4],[],[4],[4]],
  [[4,5]],
  [[0,1,2],[6],[6]],
  [[],[0,1,7,8],[0,1,7,8],[0,1,7,8],[0,1,7,8],[4],[4]],
  [[0],[2],[2]],
  [[],[],[4],[],[4],[4]],
  [[0,1,2,7],[6],[0,1,2,7,8],[6],[0,1,2,7,8],[6],[0,1,2,7,8],[6],[6]],
  [[],[0,1,2,3,4,10,11],[0,1,2,3,4,10,11],[0,1,2,3,4,10,11,12],[],[0,1,2,3,4,10,11,12],[],[0,1,2,3,4,10,11,12],[0,1,2,3,4,10,11,12,13,14],[0,1,2,3,4,10,11,12,13],[0,1,2,3,4,10,11,12,13],[],[0,1,2,3,4,12,13],[0,1,2,3,4,10,11]],
  [[0],[2],[2]],
  [[2]],
  [[2]],
  [[0,1,2,8,9],[0,1,2,8,9,10],[0,1,2,8,9,10],[0,1,2,8,9,10],[0,1,2,8,9,10],[6,7]],
  [[4]],
  [[4]],
  [[4]],
  [[2]],
  [],
  [],
  [[],[0,1,2,3,8],[0,1,2,3,8],[0,1,2,3,8],[0,1,2,3,8],[0,1,2,3,8,9],[0,1,2,3,8,9],[0,1,2,3,8,9]],
  [[0,3,8,9,10],[0,3,8,9,10,11],[0,3,8,9,10,11],[0,3,8,9,10,11],[],[0,3,8,9,12],[0,3,8,9,12],[0,3,8,9,12]],
  [[],[],[0,1,8,9,10,11],[0,1,8,9,10,11],[0,1,8,9,10,11],[0,1,8,9,10,11,12]],
  [[11,13],[0,3,11,12,13,14],[8,9],[8,9],[8,9],[8,9],[8,9],[8,9]],
  [[],[0,8,9],[0,8,9],[0,8,9]],
  [[],[0,1,2,3,9,10],[0,1,2,3,9,10],[0,1,2,3,9,10],[0,1,2,3,9,10],[0,1,2,3,9,10],[0,1,2,3,9,10],[0,1,2,3,9,10],[0,1,2,3,9,10],[8],[0,1,2,3,9,10],[8],[0,1,2,3,9,10],[0,1,2,3,9,10],[0,1,2,3,9,10,11],[0,1,2,3,9,10,11],[0,1,2,3,9,10,11],[0,1,2,3,9,10,11],[0,1,2,3,9,10],[0,1,2,3,9,10],[0,1,2,3,9,10,12],[0,1,2,3,9,10,12],[0,1,2,3,9,10,12],[0,1,2,3,9,10,12],[8]],
  [[11],[0,1,4,11,12],[0,1,4,11,12],[0,1,4,11,12],[0,1,4,11,12],[0,1,4,11,12],[0,1,4,11,12],[0,1,4,11,12],[0,1,4,11,12],[0,1,4,11,12],[0,1,4,11,12],[0,1,4,11,12],[10]],
  [[0,1,4,12,13],[0,1,4,12,13],[0,1,4,12,13],[0,1,4,12,13],[0,1,4,12,13],[0,1,4,12,13],[0,1,4,12,13],[0,1,4,12,13],[0,1,4,12,13],[10,11],[0,1,13],[0,1,4,12,13],[0,1,4,12,13],[0,1,4,12,13],[0,1,4,12,13],[0,1,4,12,13],[0,1,4,12,13],[0,1,4,12,13],[0,1,4,12,13],[0,1,4,12,13],[0,1,4,12,13],[0,1,4,12,13],[10,11]],
  [[0,2],[0,2],[2]],
  [[0,2],[0,2],[0,2],[2]],
  [[4]],
  [[],[0,1,7,8],[0,1,7,8],[0,1,7,8],[0,1,7,8],[4],[4]],
  [],
  [[],[0,2,3,4,10],[0,2,3,4,10],[0,2,3,4,10,11],[0,2,3,4,10,11],[0,2,3,4,10,11],[]],
  [[2]],
  [[2]],
  [[8]],
  [[12]],
  [[4]],
  [[],[0,2,3],[0,2,3],[0,2,3]],
  [[1,2],[10,11],[10,11]],
  [],
  [],
  [],
  [],
  [],
  [],
  [],
  [],
  [],
  [],
  [],
  [],
  [],
  [],
  [],
  [],
  []
]

def hints : Hints := fun f => (hintList[f]?).getD []

end Go.Proofs.Ythjjkinpbpealaa

/-
  Chapter 45: slices.Insert as a Prim; known() returns true.
  Conditions: none. By an AI agent.
-/
namespace Go.Proofs.Ythjjkinpbpealaa
open Go Eng

theorem mixed : Try.prog.follows .mixedOrders = true := by kernel_rfl

def zIns0 : List Value := [(.string (mk [])), (.string (mk []))]
theorem insOK0 : InsOK Try.prog hints 56 24 3 47 zIns0 66 67 where
  mixed := mixed
  body := fun C n a0 a1 a2 H => by kernel_rfl
  hS := Try.underlying24
  hI := Try.underlying3
  hz := by kernel_rfl
  hsz := by kernel_rfl
  ovl := ⟨Try.f66, by kernel_rfl, by decide, by kernel_rfl, by kernel_rfl, by kernel_rfl, by kernel_rfl⟩

noncomputable def prims0 : Prims := fun f => if f = 56 then some (insP Try.prog hints 56 47 zIns0) else if f = 26 then some copyP else if f = 28 then some nextP else if f = 34 then some waitP else none

theorem prims0_ok : PrimsOK Try.prog prims0 := by
  intro f p h
  unfold prims0 at h
  split at h
  · rename_i hf
    have e := Option.some.inj h
    subst hf
    rw [← e]
    exact ins_prim insOK0
  · skip
    split at h
    · rename_i hf
      have e := Option.some.inj h
      subst hf
      rw [← e]
      exact copy_prim
    · skip
      split at h
      · rename_i hf
        have e := Option.some.inj h
        subst hf
        rw [← e]
        exact next_prim
      · skip
        split at h
        · rename_i hf
          have e := Option.some.inj h
          subst hf
          rw [← e]
          exact wait_prim
        · skip
          cases h

theorem known_run : dCall Try.prog prims0 hints 60 7 [] H0 = some (.bool true, H0) := by kernel_rfl

noncomputable def prims1 : Prims := fun f => if f = 7 then some trueP else prims0 f

theorem prims1_ok : PrimsOK Try.prog prims1 := by
  intro f p h
  unfold prims1 at h
  split at h
  · rename_i hf
    have e := Option.some.inj h
    subst hf
    rw [← e]
    exact true_prim prims0_ok mixed ⟨60, _, known_run⟩
  · exact prims0_ok f p h

/-- What a call gives. -/
noncomputable def CC : CallF := D Try.prog prims1 hints

end Go.Proofs.Ythjjkinpbpealaa

/-
  Names of the seat's functions and types (a program of ours printed it).
  Conditions: none. By an AI agent.
-/
namespace Go.Proofs.Ythjjkinpbpealaa
open Go
def F.main_main : FuncId := 0
def F.gosem_cut : FuncId := 1
def F.gosem_cut_init : FuncId := 2
def F.law_ExpireMany : FuncId := 3
def F.law_ExpireHolds : FuncId := 4
def F.law_ExpirePlays : FuncId := 5
def F.law_ExpireNil : FuncId := 6
def F.law_known : FuncId := 7
def F.expire_Store_Put : FuncId := 8
def F.expire_Store_Pass : FuncId := 9
def F.expire_Store_Waiting : FuncId := 10
def F.expire_Store_Len : FuncId := 11
def F.expire_Store_Sweep : FuncId := 12
def F.expire_Store_Alive : FuncId := 13
def F.law_small : FuncId := 14
def F.law_calls : FuncId := 15
def F.expire_Store_Now : FuncId := 16
def F.expire_Store_Get : FuncId := 17
def F.law_Model_do : FuncId := 18
def F.law_sweeps : FuncId := 19
def F.law_Model_waiting : FuncId := 20
def F.law_Model_without : FuncId := 21
def F.law_Model_find : FuncId := 22
def F.law_bad : FuncId := 23
def F.law_Model_alive : FuncId := 24
def F.law_gets : FuncId := 25
def F.expire_Store_Copy : FuncId := 26
def F.law_alike : FuncId := 27
def F.expire_Store_Next : FuncId := 28
def F.expire_Store_Extend : FuncId := 29
def F.expire_Store_Delete : FuncId := 30
def F.expire_check : FuncId := 31
def F.model_Model_Put : FuncId := 32
def F.expire_Store_set : FuncId := 33
def F.expire_Store_waiting : FuncId := 34
def F.model_Model_Len : FuncId := 35
def F.model_Model_Delete : FuncId := 36
def F.slices_DeleteFunc_Pair : FuncId := 37
def F.model_Model_Pairs : FuncId := 38
def F.expire_Store_Alive_1 : FuncId := 39
def F.expire_Store_ended : FuncId := 40
def F.model_Model_Get : FuncId := 41
def F.law_Model_put : FuncId := 42
def F.model_Model_Copy : FuncId := 43
def F.model_Model_at : FuncId := 44
def F.model_Model_set : FuncId := 45
def F.slices_SortFunc_string : FuncId := 46
def F.expire_Store_waiting_1 : FuncId := 47
def F.cmp_Or_int : FuncId := 48
def F.cmp_Compare_int : FuncId := 49
def F.cmp_Compare_string : FuncId := 50
def F.model_Model_place : FuncId := 51
def F.slices_Delete_Pair : FuncId := 52
def F.slices_IndexFunc_Pair : FuncId := 53
def F.slices_Clone_Pair : FuncId := 54
def F.model_check : FuncId := 55
def F.slices_Insert_Pair : FuncId := 56
def F.slices_pdqsortCmpFunc_string : FuncId := 57
def F.math_bits_Len : FuncId := 58
def F.cmp_isNaN_int : FuncId := 59
def F.cmp_isNaN_string : FuncId := 60
def F.slices_BinarySearchFunc_string : FuncId := 61
def F.model_Model_place_1 : FuncId := 62
def F.keys_Compare : FuncId := 63
def F.slices_ContainsFunc_string : FuncId := 64
def F.model_check_1 : FuncId := 65
def F.slices_overlaps_Pair : FuncId := 66
def F.slices_rotateRight_Pair : FuncId := 67
def F.slices_insertionSortCmpFunc_string : FuncId := 68
def F.slices_heapSortCmpFunc_string : FuncId := 69
def F.slices_breakPatternsCmpFunc_string : FuncId := 70
def F.slices_choosePivotCmpFunc_string : FuncId := 71
def F.slices_reverseRangeCmpFunc_string : FuncId := 72
def F.slices_partialInsertionSortCmpFunc_string : FuncId := 73
def F.slices_partitionEqualCmpFunc_string : FuncId := 74
def F.slices_partitionCmpFunc_string : FuncId := 75
def F.math_bits_Len32 : FuncId := 76
def F.math_bits_Len64 : FuncId := 77
def F.strings_Compare : FuncId := 78
def F.slices_IndexFunc_string : FuncId := 79
def F.slices_rotateLeft_Pair : FuncId := 80
def F.slices_siftDownCmpFunc_string : FuncId := 81
def F.slices_nextPowerOfTwo : FuncId := 82
def F.slices_xorshift_Next : FuncId := 83
def F.slices_medianAdjacentCmpFunc_string : FuncId := 84
def F.slices_medianCmpFunc_string : FuncId := 85
def F.internal_bytealg_CompareString : FuncId := 86
def F.slices_Reverse_Pair : FuncId := 87
def F.slices_order2CmpFunc_string : FuncId := 88
def F.internal_bytealg_abigen_runtime_cmpstring : FuncId := 89
def F.runtime_boundsError_Error : FuncId := 90
def F.runtime_boundsError_RuntimeError : FuncId := 91
def F.runtime_errorString_Error : FuncId := 92
def F.runtime_errorString_RuntimeError : FuncId := 93
def F.runtime_plainError_Error : FuncId := 94
def F.runtime_plainError_RuntimeError : FuncId := 95
def F.runtime_errorAddressString_Error : FuncId := 96
def F.runtime_errorAddressString_RuntimeError : FuncId := 97
def F.runtime_TypeAssertionError_Error : FuncId := 98
def F.runtime_TypeAssertionError_RuntimeError : FuncId := 99
def F.runtime_PanicNilError_Error : FuncId := 100
def F.runtime_PanicNilError_RuntimeError : FuncId := 101
def F.internal_abi_Type_Align : FuncId := 102
def F.internal_runtime_maps_unhashableTypeError_Error : FuncId := 103
def F.internal_runtime_maps_unhashableTypeError_RuntimeError : FuncId := 104
def F.internal_abi_Kind_String : FuncId := 105
def T.tuple : TypeId := 0
def T.func : TypeId := 1
def T.int64 : TypeId := 2
def T.int : TypeId := 3
def T.bool : TypeId := 4
def T.uint8 : TypeId := 5
def T.internal_abi_BoundsErrorCode : TypeId := 6
def T.struct_x_int64_y_int_signed_bool_code_abi_BoundsErrorCode : TypeId := 7
def T.runtime_boundsError : TypeId := 8
def T.string : TypeId := 9
def T.runtime_errorString : TypeId := 10
def T.runtime_plainError : TypeId := 11
def T.uintptr : TypeId := 12
def T.struct_msg_string_addr_uintptr : TypeId := 13
def T.runtime_errorAddressString : TypeId := 14
def T.p_runtime_TypeAssertionError : TypeId := 15
def T.p_runtime_PanicNilError : TypeId := 16
def T.p_abi_Type : TypeId := 17
def T.struct_typ_abi_Type : TypeId := 18
def T.internal_runtime_maps_unhashableTypeError : TypeId := 19
def T.interface : TypeId := 20
def T.int32 : TypeId := 21
def T.func_1 : TypeId := 22
def T.p_expire_Store : TypeId := 23
def T.sl_api_Pair : TypeId := 24
def T.struct_list_api_Pair : TypeId := 25
def T.model_Model : TypeId := 26
def T.map_string_int : TypeId := 27
def T.struct_data_model_Model_ends_map_string_int_now_int : TypeId := 28
def T.expire_Store : TypeId := 29
def T.sl_uint8 : TypeId := 30
def T.api_Errno : TypeId := 31
def T.func_2 : TypeId := 32
def T.func_3 : TypeId := 33
def T.func_4 : TypeId := 34
def T.sl_string : TypeId := 35
def T.tuple_1 : TypeId := 36
def T.func_5 : TypeId := 37
def T.func_6 : TypeId := 38
def T.func_7 : TypeId := 39
def T.sl_ticketlinelaw_Act : TypeId := 40
def T.func_8 : TypeId := 41
def T.map_string_bool : TypeId := 42
def T.struct_What_int_Key_string_Value_string_N_int : TypeId := 43
def T.law_Act : TypeId := 44
def T.func_9 : TypeId := 45
def T.struct_Key_string_Value_string : TypeId := 46
def T.api_Pair : TypeId := 47
def T.tuple_2 : TypeId := 48
def T.func_10 : TypeId := 49
def T.func_11 : TypeId := 50
def T.p_ticketlinelaw_Model : TypeId := 51
def T.sl_ticketlinelaw_Entry : TypeId := 52
def T.struct_All_ticketlinelaw_Entry_Now_int : TypeId := 53
def T.law_Model : TypeId := 54
def T.func_12 : TypeId := 55
def T.func_13 : TypeId := 56
def T.func_14 : TypeId := 57
def T.func_15 : TypeId := 58
def T.func_16 : TypeId := 59
def T.func_17 : TypeId := 60
def T.func_18 : TypeId := 61
def T.func_19 : TypeId := 62
def T.func_20 : TypeId := 63
def T.func_21 : TypeId := 64
def T.func_22 : TypeId := 65
def T.func_23 : TypeId := 66
def T.func_24 : TypeId := 67
def T.func_25 : TypeId := 68
def T.tuple_3 : TypeId := 69
def T.func_26 : TypeId := 70
def T.func_27 : TypeId := 71
def T.func_28 : TypeId := 72
def T.func_29 : TypeId := 73
def T.func_30 : TypeId := 74
def T.struct_Key_string_Value_string_End_int : TypeId := 75
def T.law_Entry : TypeId := 76
def T.p_model_Model : TypeId := 77
def T.func_31 : TypeId := 78
def T.tuple_4 : TypeId := 79
def T.func_32 : TypeId := 80
def T.func_33 : TypeId := 81
def T.func_34 : TypeId := 82
def T.func_35 : TypeId := 83
def T.func_36 : TypeId := 84
def T.func_37 : TypeId := 85
def T.tuple_5 : TypeId := 86
def T.func_38 : TypeId := 87
def T.func_39 : TypeId := 88
def T.func_40 : TypeId := 89
def T.func_41 : TypeId := 90
def T.func_42 : TypeId := 91
def T.func_43 : TypeId := 92
def T.func_44 : TypeId := 93
def T.func_45 : TypeId := 94
def T.uint : TypeId := 95
def T.sl_int : TypeId := 96
def T.func_46 : TypeId := 97
def T.func_47 : TypeId := 98
def T.func_48 : TypeId := 99
def T.func_49 : TypeId := 100
def T.func_50 : TypeId := 101
def T.func_51 : TypeId := 102
def T.slices_sortedHint : TypeId := 103
def T.tuple_6 : TypeId := 104
def T.func_52 : TypeId := 105
def T.func_53 : TypeId := 106
def T.func_54 : TypeId := 107
def T.func_55 : TypeId := 108
def T.func_56 : TypeId := 109
def T.uint32 : TypeId := 110
def T.func_57 : TypeId := 111
def T.uint64 : TypeId := 112
def T.func_58 : TypeId := 113
def T.slices_xorshift : TypeId := 114
def T.func_59 : TypeId := 115
def T.func_60 : TypeId := 116
def T.func_61 : TypeId := 117
def T.p_int : TypeId := 118
def T.func_62 : TypeId := 119
def T.func_63 : TypeId := 120
def T.p_slices_xorshift : TypeId := 121
def T.tuple_7 : TypeId := 122
def T.func_64 : TypeId := 123
def T.func_65 : TypeId := 124
def T.struct_interface_abi_Type_concrete_abi_Type_asserted_abi_Typ : TypeId := 125
def T.runtime_TypeAssertionError : TypeId := 126
def T.n0_runtime_PanicNilError : TypeId := 127
def T.struct_0_runtime_PanicNilError : TypeId := 128
def T.runtime_PanicNilError : TypeId := 129
def T.internal_abi_TFlag : TypeId := 130
def T.internal_abi_Kind : TypeId := 131
def T.func_66 : TypeId := 132
def T.p_uint8 : TypeId := 133
def T.internal_abi_NameOff : TypeId := 134
def T.internal_abi_TypeOff : TypeId := 135
def T.struct_Size_uintptr_PtrBytes_uintptr_Hash_uint32_TFlag_abi_T : TypeId := 136
def T.internal_abi_Type : TypeId := 137
def T.unsafe_Pointer : TypeId := 138
end Go.Proofs.Ythjjkinpbpealaa
